/-
  slices.Collect over a line's All, at lines of ints: what stands in the line comes back in a row of its own. No condition beyond what each theorem names.
-/
import Derived.RangeFuncBox
import Derived.RangeFuncLeaves
import Derived.Shelf.Abstract
import Derived.WalkKit
import Derived.OwnWalkIn
import Derived.TacticsInMore
import Derived.LoopNIn
import Derived.LoopIn
import Derived.Maps.AppendAt
import Derived.Test.YtaniphdbebdhhaaSc5
namespace Go.Proofs.Ytaniphdbebdhhaa
open Go.Vk Go.RowKit Go.Shelf
attribute [local go_sem] Oper.semAt_some

/-- What has come when k rounds are over. -/
def upto {α : Type} (f : Nat → α) (k : Nat) : List α := (List.range k).map f
theorem upto_succ {α : Type} (f : Nat → α) (k : Nat) : upto f (k + 1) = upto f k ++ [f k] := by simp [upto, List.range_succ]
theorem upto_length {α : Type} (f : Nat → α) (k : Nat) : (upto f k).length = k := by simp [upto]
theorem upto_all (zs : List Int) : upto (fun j => zs[j]?.getD 0) zs.length = zs := by
  apply List.ext_getElem
  · simp [upto]
  · intro i h1 h2
    simp [upto, h2]
theorem upto_take (zs : List Int) {k : Nat} (hk : k ≤ zs.length) : upto (fun j => zs[j]?.getD 0) k = zs.take k := by
  apply List.ext_getElem
  · simp [upto, hk]
  · intro i h1 h2
    have : i < zs.length := by simp [upto] at h1; omega
    simp [upto, this]

set_option maxRecDepth 100000 in
set_option maxHeartbeats 2000000 in
/-- The iterator over a line of ints, where every round keeps what lay below n₀. -/
theorem all1_in (F : Fence) (n : Nat) (h129 : F.fn 129) (hro : F.round = none) (hn : 1 ≤ n) (l Bs n₀ bq oq b off len cap : Nat) (zs : List Int) (hreach : len * 8 ≤ 140737488351232) (hb : b < n₀) (J Jx : List Int → World → Prop)
    (hY : ∀ pre x W, J pre W → pre.length < len → YieldAt F (n - 1) Try.prog l #[.int .i64 x] W fun e W' =>
      (e = .returned (.bool true) ∧ J (pre ++ [x]) W' ∧ Below n₀ W W') ∨ (e = .returned (.bool false) ∧ Jx (pre ++ [x]) W'))
    (W : World) (hBs : W.cell? ⟨Bs, 0, none⟩ = some (.pointer (some ⟨bq, oq, none⟩))) (hbq : W.cell? ⟨bq, oq, none⟩ = some (.slice (some ⟨b, off, none⟩) len cap))
    (hc : ∀ j, j < len → W.cell? ⟨b, off + j, none⟩ = some (.int .i64 (zs[j]?.getD 0))) (h0 : J [] W) :
    CallsIn F n Try.prog 129 #[.func (.yield l) #[] #[], .pointer (some ⟨Bs, 0, none⟩)] W fun e W' => (∃ v, e = .returned v) ∧
      ((∃ ys, ys = upto (fun j => zs[j]?.getD 0) len ∧ J ys W') ∨ (∃ pre, (∃ k, k ≤ len ∧ pre = upto (fun j => zs[j]?.getD 0) k) ∧ Jx pre W')) := by
  refine callsIn_of_wp Try.func129 rfl h129 ?_ hro
  simp only [Try.ntmps129, List.size_toArray, List.length_cons, List.length_nil, Nat.reduceAdd, Nat.reduceSub, Array.replicate_succ, Array.replicate_zero, List.push_toArray, List.append_toArray, List.nil_append, List.cons_append]
  gi_wp2
  gi_loopw [10] (fun i wr => ∃ k : Nat, k ≤ len ∧ i = .int .i64 k ∧ J (upto (fun j => zs[j]?.getD 0) k) wr ∧ Below n₀ W wr)
    (fun i _ => len - (intOf i).toNat)
  case atStart => exact ⟨0, Nat.zero_le _, rfl, h0, Below.refl _ _⟩
  case round =>
    obtain ⟨k, hk, rfl, hJs, hnx⟩ := hrel
    have hcx : k < len → wr.cell? ⟨b, off + k, none⟩ = some (.int .i64 (zs[k]?.getD 0)) := fun h => (hnx.cell (p := ⟨b, off + k, none⟩) hb).trans (hc k h)
    by_cases hlt : k < len
    · obtain ⟨fn, tmps, assign, body, hy, hR⟩ := hY _ (zs[k]?.getD 0) wr hJs (by rw [upto_length]; exact hlt)
      have hcx' := hcx hlt
      gi_wp2
      refine hR.mono ?_
      rintro e W3 (⟨rfl, hJ3, hk3⟩ | ⟨rfl, hJx3⟩)
      · gi_wp2
        go_roundw
        case rel => exact ⟨k + 1, by omega, by simp, by rw [upto_succ]; exact hJ3, hnx.trans hk3⟩
        case measure => simp [intOf]; omega
      · gi_wp2
        refine bodyPost_ret (results_none rfl _ _ _) rfl ?_
        exact ⟨⟨_, rfl⟩, .inr ⟨_, ⟨k + 1, by omega, (upto_succ _ _).symm⟩, hJx3⟩⟩
    · obtain rfl : k = len := by omega
      gi_wp2
      go_end0
      exact ⟨⟨_, rfl⟩, .inl ⟨_, rfl, hJs⟩⟩

set_option maxRecDepth 100000 in
set_option maxHeartbeats 1000000 in
/-- The same over a line in which nobody has ever stood. -/
theorem all1_nil_in (F : Fence) (n : Nat) (h129 : F.fn 129) (hro : F.round = none) (l Bs bq oq : Nat) (J : List Int → World → Prop) (W : World) (hBs : W.cell? ⟨Bs, 0, none⟩ = some (.pointer (some ⟨bq, oq, none⟩)))
    (hbq : W.cell? ⟨bq, oq, none⟩ = some (.slice none 0 0)) (h0 : J [] W) :
    CallsIn F n Try.prog 129 #[.func (.yield l) #[] #[], .pointer (some ⟨Bs, 0, none⟩)] W fun e W' => (∃ v, e = .returned v) ∧ J [] W' := by
  refine callsIn_of_wp Try.func129 rfl h129 ?_ hro
  simp only [Try.ntmps129, List.size_toArray, List.length_cons, List.length_nil, Nat.reduceAdd, Nat.reduceSub, Array.replicate_succ, Array.replicate_zero, List.push_toArray, List.append_toArray, List.nil_append, List.cons_append]
  gi_wp2
  gi_loopw [10] (fun i wr => i = .int .i64 0 ∧ J [] wr) (fun _ _ => 0)
  case atStart => exact ⟨rfl, h0⟩
  case round =>
    obtain ⟨rfl, hJs⟩ := hrel
    gi_wp2
    go_end0
    exact ⟨⟨_, rfl⟩, hJs⟩

/-- The line at an address holds these ints, all below n₀. -/
def LineInts (n₀ : Nat) (W : World) (bq oq : Nat) (zs : List Int) : Prop :=
  bq < n₀ ∧ ((W.cell? ⟨bq, oq, none⟩ = some (.slice none 0 0) ∧ zs = []) ∨
    ∃ b off cap, W.cell? ⟨bq, oq, none⟩ = some (.slice (some ⟨b, off, none⟩) zs.length cap) ∧ b < n₀ ∧ ∀ j, j < zs.length → W.cell? ⟨b, off + j, none⟩ = some (.int .i64 (zs[j]?.getD 0)))
theorem LineInts.below {n₀ : Nat} {A B : World} (h : Below n₀ A B) {bq oq : Nat} {zs : List Int} : LineInts n₀ A bq oq zs → LineInts n₀ B bq oq zs
  | ⟨hq, .inl ⟨e1, e2⟩⟩ => ⟨hq, .inl ⟨(h.cell (p := ⟨bq, oq, none⟩) hq).trans e1, e2⟩⟩
  | ⟨hq, .inr ⟨b, off, cap, e, hb, hc⟩⟩ => ⟨hq, .inr ⟨b, off, cap, (h.cell (p := ⟨bq, oq, none⟩) hq).trans e, hb, fun j hj => (h.cell (p := ⟨b, off + j, none⟩) hb).trans (hc j hj)⟩⟩

theorem all_stops (F : Fence) (n : Nat) (h129 : F.fn 129) (hro : F.round = none) (hn : 1 ≤ n) (Bs n₀ bq oq : Nat) (zs : List Int) (hreach : zs.length * 8 ≤ 140737488351232) (w : World) (hBs : Bs < w.heap.size) (hn₀ : n₀ ≤ w.heap.size)
    (hc : w.cell? ⟨Bs, 0, none⟩ = some (.pointer (some ⟨bq, oq, none⟩))) (hL : LineInts n₀ w bq oq zs) :
    SeqStopsK F n Try.prog 129 #[.pointer (some ⟨Bs, 0, none⟩)] (fun x : Int => #[Value.int .i64 x]) (Below n₀) (fun ys => ys = zs) (fun pre => pre <+: zs) zs.length w := fun l J Jx W hW _ _ hY h0 => by
  have hc' := (hW.cell (p := ⟨Bs, 0, none⟩) hBs).trans hc
  obtain ⟨hq, ⟨e1, rfl⟩ | ⟨b, off, cap, e1, hb, hcs⟩⟩ := hL.below (hW.mono hn₀)
  · exact (all1_nil_in F n h129 hro l Bs bq oq J W hc' e1 h0).mono fun e W' ⟨he, hj⟩ => ⟨he, .inl ⟨_, rfl, hj⟩⟩
  · refine (all1_in F n h129 hro hn l Bs n₀ bq oq b off zs.length cap zs hreach hb J Jx hY W hc' e1 hcs h0).mono ?_
    rintro e W' ⟨he, ⟨ys, rfl, hj⟩ | ⟨pre, ⟨k, hk, rfl⟩, hj⟩⟩
    · exact ⟨he, .inl ⟨_, upto_all zs, hj⟩⟩
    · exact ⟨he, .inr ⟨_, by rw [upto_take zs hk]; exact List.take_prefix _ _, hj⟩⟩

theorem info3 : (Try.prog.info? 3).map (fun i => (i.zero, i.size, i.bytes)) = some (some (.int .i64 0), 1, 8) := by kernel_rfl

set_option maxRecDepth 100000 in
set_option maxHeartbeats 2000000 in
/-- slices.AppendSeq onto nil, over a line's iterator. -/
theorem appendSeq_in (F : Fence) (n : Nat) (h128 : F.fn 128) (h129 : F.fn 129) (hro : F.round = none) (hn : 2 ≤ n) (Bs n₀ bq oq : Nat) (zs : List Int) (hlen : zs.length ≤ maxLen) (hbytes : zs.length * 8 ≤ 140737488351232) (w : World) (hBs : Bs < w.heap.size) (hn₀ : n₀ ≤ w.heap.size)
    (hc0 : w.cell? ⟨Bs, 0, none⟩ = some (.pointer (some ⟨bq, oq, none⟩))) (hL : LineInts n₀ w bq oq zs) :
    CallsIn F n Try.prog 128 #[.slice none 0 0, .func (.func 129) #[] #[.pointer (some ⟨Bs, 0, none⟩)]] w fun e W' => ∃ v, e = .returned v ∧ W'.ownsRow w.heap.size 3 1 v zs.length (zs.map (Value.int .i64)) ∧ (v = .slice none 0 0 ↔ zs = []) ∧ Below w.heap.size w W' := by
  have h1 : 1 ≤ n := by omega
  obtain ⟨i0, hi, hz0, hz1, hz2⟩ := info_parts info3
  refine callsIn_of_wp_marks Try.func128 rfl h128 ?_ hro
  simp only [Try.ntmps128, List.size_toArray, List.length_cons, List.length_nil, Nat.reduceAdd, Nat.reduceSub, Array.replicate_succ, Array.replicate_zero, List.push_toArray, List.append_toArray, List.nil_append, List.cons_append]
  gi_wp2
  have bO := Boxed.new w 69 (.slice none 0 0)
  have hB0 : Below w.heap.size w (w.alloc (.cells #[.slice none 0 0] 69)) := (Below.refl _ w).alloc (Nat.le_refl _) _
  have hcB : (w.alloc (.cells #[.slice none 0 0] 69)).cell? ⟨Bs, 0, none⟩ = some (.pointer (some ⟨bq, oq, none⟩)) := (hB0.cell (p := ⟨Bs, 0, none⟩) hBs).trans hc0
  refine wpIn_rangeFunc_ownF hro h1 (gf := 129) (lb := #[.pointer (some ⟨Bs, 0, none⟩)]) rfl h129 (enters_of Try.func129 (by kernel_rfl) rfl)
    (all_stops F (n - 1) h129 hro (by omega) Bs n₀ bq oq zs hbytes _ (by simp; omega) (by simp; omega) hcB (hL.below (hB0.mono hn₀))) belowK_t (belowK_b (by simp; omega)) (Below.refl _ _) (fun _ => rfl)
    (fun pre W => (∃ v, Boxed W w.heap.size 69 v ∧ W.ownsRow w.heap.size 3 1 v pre.length (pre.map (Value.int .i64)) ∧ (v = .slice none 0 0 ↔ pre = [])) ∧ Below w.heap.size w W)
    (fun _ _ _ => False)
    (OwnFrom.and (Own.from (holdsRow_own w.heap.size w.heap.size 69 3 1 (fun pre : List Int => pre.length) (fun pre => pre.map (Value.int .i64)) (fun pre v => v = .slice none 0 0 ↔ pre = [])) _) (ownFrom_below (Nat.le_refl _) (by simp)))
    (fun _ _ _ _ _ hs _ _ => hs)
    ⟨⟨_, bO, World.ownsRow_nil _ _ _ _, by simp⟩, hB0⟩
    (fun x => { tmps := #[.slice none 0 0, .func (.func 129) #[] #[.pointer (some ⟨Bs, 0, none⟩)], .pointer (some ⟨w.heap.size, 0, none⟩), undef, .slice none 0 0, .int .i64 x, .func (.func 129) #[] #[.pointer (some ⟨Bs, 0, none⟩)], .int .i64 x, undef, undef, undef, undef, undef], defers := [] }) ?assign ?body ?done ?stop
  case assign =>
    intro l x W K hK
    gi_wp2
    exact hK
  case body =>
    rintro l pre x W ⟨⟨v, hv, hrow, hnil⟩, hB⟩ hlt
    have hc := hv.cell
    gi_wp2_with (gi_at_builtin; refine wpListIn_append_own _ rfl _ _ 69 rfl w.heap.size 3 i0 (.int .i64 0) 1 8 Try.underlying69 hi hz0 hz1 hz2 rfl (by decide) _ _ _ rfl (hrow.alloc _) ⟨W.heap.size, 0, none⟩ 1 1 [.int .i64 x] rfl rfl (cell_one_new _ _ _) (by simp [Value.oneCell']) (by omega) (by omega) (by have := hB.size; simp; omega) ?_; intro v' w1 hown' hgrow _; obtain ⟨g', cap', rfl⟩ := ownsRow_succ hown'; obtain ⟨hv1, hv2, hr2, hk2, hb2⟩ := hv.appended (by decide) hrow hB.size (Nat.le_refl _) hown' hgrow; have hc1 := hv1.cell; have hf1 := hv1.frozen)
    exact ⟨hk2, hb2.mono hn₀, ⟨_, hv2, by simpa using hr2, by simp⟩, hB.trans hb2⟩
  case done =>
    rintro D ys W hD rfl ⟨⟨v, hv, hrow, hnil⟩, hB⟩ hK
    have hc := hv.cell
    gi_wp2
    refine ⟨by simp, .inl ⟨_, _, rfl, run_takeDeferred hK, ?_⟩⟩
    exact ⟨_, results_tmp rfl _ _ _, v, rfl, ownsRow_putObj hrow _ hK rfl, hnil, hB.trans (belowK_b (w := w) (Nat.le_refl _) W D _ _ (by simp at hD; omega) hK rfl rfl)⟩
  case stop =>
    rintro D c pre W _ _ h _
    exact h.elim

set_option maxRecDepth 100000 in
set_option maxHeartbeats 1000000 in
/-- slices.Collect over a line's iterator. -/
theorem collect_in (F : Fence) (n : Nat) (h100 : F.fn 100) (h128 : F.fn 128) (h129 : F.fn 129) (hro : F.round = none) (hn : 3 ≤ n) (Bs n₀ bq oq : Nat) (zs : List Int) (hlen : zs.length ≤ maxLen) (hbytes : zs.length * 8 ≤ 140737488351232) (w : World) (hBs : Bs < w.heap.size) (hn₀ : n₀ ≤ w.heap.size)
    (hc0 : w.cell? ⟨Bs, 0, none⟩ = some (.pointer (some ⟨bq, oq, none⟩))) (hL : LineInts n₀ w bq oq zs) :
    CallsIn F n Try.prog 100 #[.func (.func 129) #[] #[.pointer (some ⟨Bs, 0, none⟩)]] w fun e W' => ∃ v, e = .returned v ∧ W'.ownsRow w.heap.size 3 1 v zs.length (zs.map (Value.int .i64)) ∧ (v = .slice none 0 0 ↔ zs = []) ∧ Below w.heap.size w W' := by
  have h1 : 1 ≤ n := by omega
  refine callsIn_of_wp Try.func100 rfl h100 ?_ hro
  simp only [Try.ntmps100, List.size_toArray, List.length_cons, List.length_nil, Nat.reduceAdd, Nat.reduceSub, Array.replicate_succ, Array.replicate_zero, List.push_toArray, List.append_toArray, List.nil_append, List.cons_append]
  gi_wp2_with (gi_at_call 128; refine (appendSeq_in F (n - 1) h128 h129 hro (by omega) Bs n₀ bq oq zs hlen hbytes _ hBs hn₀ hc0 hL).mono ?_; rintro e w' ⟨v, rfl, hrow, hnil, hb⟩)
  go_ret
  exact ⟨v, rfl, hrow, hnil, hb⟩

/-- slices.Collect over a line's iterator, with no fence. -/
theorem Collect_calls {Bs bq oq : Nat} {zs : List Int} {w : World} (hlen : zs.length ≤ maxLen) (hbytes : zs.length * 8 ≤ 140737488351232) (hc0 : w.cell? ⟨Bs, 0, none⟩ = some (.pointer (some ⟨bq, oq, none⟩))) (hL : LineInts w.heap.size w bq oq zs) :
    Calls Try.prog 100 #[.func (.func 129) #[] #[.pointer (some ⟨Bs, 0, none⟩)]] w fun e W' => ∃ v, e = .returned v ∧ W'.ownsRow w.heap.size 3 1 v zs.length (zs.map (Value.int .i64)) ∧ (v = .slice none 0 0 ↔ zs = []) ∧ Below w.heap.size w W' := by
  have hBs : Bs < w.heap.size := by
    rcases Nat.lt_or_ge Bs w.heap.size with h | h
    · exact h
    · simp [World.cell?, Array.getElem?_eq_none h] at hc0
  exact (collect_in { fn := fun _ => True } 3 trivial trivial trivial rfl (Nat.le_refl _) Bs w.heap.size bq oq zs hlen hbytes w hBs (Nat.le_refl _) hc0 hL).calls fun k d hd => by cases hd

open Vk.Sched
theorem row_base {w : World} {base e z n : Nat} {v : Value} {xs : List Value} (h : w.ownsRow base e z v n xs) : w.ownsRow 0 e z v n xs ∧ ∀ b, v.ownBlock = some b → base ≤ b := by
  refine ⟨⟨h.1, h.2.imp id ?_⟩, fun b hb => ?_⟩
  · rintro ⟨g, cap, cur, e1, _, r⟩
    exact ⟨g, cap, cur, e1, Nat.zero_le _, r⟩
  · rcases h.2 with ⟨rfl, _⟩ | ⟨g, cap, cur, rfl, hb', _⟩
    · simp [Value.ownBlock] at hb
    · obtain rfl : g = b := by simpa [Value.ownBlock] using hb
      exact hb'

theorem All_calls (q : Value) (w : World) : Calls Try.prog 101 #[q] w fun en w' => en = .returned (.func (.func 129) #[] #[.pointer (some ⟨w.heap.size, 0, none⟩)]) ∧ w' = w.alloc (.cells q.cells 122) := by
  apply vk101
  simp [vc101]

section
variable {own : Nat → Option Tag} {w : World} {x : Nat} {S : PS} {tv : Value} {m : Nat} {lv : Nat → Value} {l : List Ent3} {c : Nat} {eb : Int → Nat}

theorem lineInts_of {w : World} {x o : Nat} {cs : Array Value} {T : TypeId} {fr : Nat × Nat} (hx : w.heap[x]? = some (.cells cs T fr)) {v : Value} {xs : List Int} (ho : cs[o]? = some v) (hv : w.ownsRow 0 3 1 v xs.length (nums xs)) : LineInts w.heap.size w x o xs := by
  refine ⟨blk_lt hx, ?_⟩
  rw [cell_of_blk hx, ho]
  obtain ⟨hl, ⟨rfl, h0⟩ | ⟨g, cap, cur, rfl, _, hg, h1, h2, h3, h4⟩⟩ := hv
  · exact .inl ⟨rfl, List.length_eq_zero_iff.1 h0⟩
  · refine .inr ⟨g, 0, cap, rfl, blk_lt hg, fun j hj => ?_⟩
    rw [cell_of_blk hg, Nat.zero_add]
    have h5 : (cur.toList.take (xs.length * 1))[j]? = (nums xs)[j]? := by rw [h4]
    rw [List.getElem?_take, if_pos (by omega), Array.getElem?_toList, nums_get] at h5
    rw [h5]
    simp [hj]

set_option maxRecDepth 100000 in
theorem Queue_calls (h : SchedAt own w x S tv m lv l c eb) (hq : ∀ i : Nat, i < 64 → (S.q i).length < 1000000000) (d p : Int) :
    Calls Try.prog 48 #[.pointer (some ⟨x, 0, none⟩), .int .i64 d, .int .i64 p] w fun en w' => ∃ v, en = .returned (.tuple #[v, .int .i64 (S.queue d p).2]) ∧ Upd (fun _ => False) w w' ∧
      w'.ownsRow 0 3 1 v (S.queue d p).1.length (nums (S.queue d p).1) ∧ (∀ b, v.ownBlock = some b → w.heap.size ≤ b) := by
  apply vk48
  unfold vc48
  unfold PS.queue
  cases hpd : decide (d < 0 ∨ 8 ≤ d ∨ p < 0 ∨ 8 ≤ p) with
  | true =>
    have hp := of_decide_eq_true hpd
    have hp' : ((d < 0 ∨ 8 ≤ d) ∨ p < 0) ∨ 8 ≤ p := by omega
    simp only [hp, if_true]
    simp [hp']
    exact ⟨Upd.refl _ _, World.ownsRow_nil w 0 3 1, fun b hb => by simp [Value.ownBlock] at hb⟩
  | false =>
    have hp := of_decide_eq_false hpd
    have h1 : ¬ d < 0 := by omega
    have h2 : ¬ 8 ≤ d := by omega
    have h3 : ¬ p < 0 := by omega
    have h4 : ¬ 8 ≤ p := by omega
    have h5 : 0 ≤ d := by omega
    have h6 : 0 ≤ p := by omega
    have h7 : d < 8 := by omega
    have h8 : p < 8 := by omega
    simp only [hp, if_false]
    simp [h1, h2, h3, h4, h5, h6, h7, h8]
    refine callK_of (All_calls _ _) ?_
    rintro r w2 ⟨rfl, rfl⟩
    refine ⟨_, rfl, ?_⟩
    obtain ⟨i, hi, hi2⟩ : ∃ i : Nat, i < 64 ∧ d.toNat * 8 + p.toNat = i := ⟨_, by omega, rfl⟩
    have he : (8 * d + p) = ((i : Nat) : Int) := by omega
    rw [Nat.add_assoc, hi2, he]
    have hL := lineInts_of h.head (sc_line tv S.turn S.left m lv hi) (h.lines i hi)
    have hB : Below w.heap.size w (w.alloc (.cells (Value.pointer (some ⟨x, 4 + i, none⟩)).cells 122)) := (Below.refl _ w).alloc (Nat.le_refl _) _
    have hlt := hq i hi
    have hc0 : (w.alloc (.cells (Value.pointer (some ⟨x, 4 + i, none⟩)).cells 122)).cell? ⟨w.heap.size, 0, none⟩ = some (.pointer (some ⟨x, 4 + i, none⟩)) := (Boxed.new w 122 _).cell
    have hmax : (1000000000 : Nat) ≤ maxLen := by decide
    refine callK_of (Collect_calls (Nat.le_trans (Nat.le_of_lt hlt) hmax) (by omega) hc0 ?_) ?_
    · obtain ⟨hq1, hq2⟩ := hL.below hB
      refine ⟨by simp; omega, ?_⟩
      rcases hq2 with hq2 | ⟨b, off, cap, e1, hb, e2⟩
      · exact .inl hq2
      · exact .inr ⟨b, off, cap, e1, by simp; omega, e2⟩
    rintro r w3 ⟨v, rfl, hrow, _, hb⟩
    refine ⟨_, rfl, ?_⟩
    obtain ⟨hr, hbase⟩ := row_base hrow
    have hb2 := hB.trans (hb.mono hB.size)
    refine ⟨⟨hb2.os, hb2.tape, hb2.output, hb2.size, fun k hk _ => hb2.block k hk⟩, hr, fun b hbb => ?_⟩
    have := hbase b hbb
    simp at this
    omega
end
end Go.Proofs.Ytaniphdbebdhhaa
