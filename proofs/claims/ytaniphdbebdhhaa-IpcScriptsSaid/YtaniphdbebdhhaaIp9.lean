/-
  A range over a line of waiters: the iterator; the bus's Line and Where. No condition.
-/
import Derived.Test.YtaniphdbebdhhaaIp8
namespace Go.Proofs.Ytaniphdbebdhhaa.Ipc
open Go.Vk Go.RowKit Go.Shelf Vk.Ipc
attribute [local go_sem] Oper.semAt_some

def wt0 : Wt := ⟨0, 0, .zero⟩
/-- The cells of a waiter at an address. -/
def WtAt (W : World) (b o : Nat) (x : Wt) : Prop :=
  W.cell? ⟨b, o, none⟩ = some (.int .i64 x.th) ∧ W.cell? ⟨b, o + 1, none⟩ = some (.int .i64 x.how) ∧ W.cell? ⟨b, o + 2, none⟩ = some (.int .u32 x.m.a) ∧ W.cell? ⟨b, o + 3, none⟩ = some (.int .u32 x.m.b) ∧
  W.cell? ⟨b, o + 4, none⟩ = some (.int .u32 x.m.c) ∧ W.cell? ⟨b, o + 5, none⟩ = some (.int .u32 x.m.d) ∧ W.cell? ⟨b, o + 6, none⟩ = some (.int .u32 x.m.e) ∧ W.cell? ⟨b, o + 7, none⟩ = some (.int .u32 x.m.f)
theorem WtAt.below {n₀ : Nat} {A B : World} (h : Below n₀ A B) {b o : Nat} (hb : b < n₀) {x : Wt} (k : WtAt A b o x) : WtAt B b o x := by
  obtain ⟨k0, k1, k2, k3, k4, k5, k6, k7⟩ := k
  exact ⟨(h.cell (p := ⟨b, _, none⟩) hb).trans k0, (h.cell (p := ⟨b, _, none⟩) hb).trans k1, (h.cell (p := ⟨b, _, none⟩) hb).trans k2, (h.cell (p := ⟨b, _, none⟩) hb).trans k3, (h.cell (p := ⟨b, _, none⟩) hb).trans k4, (h.cell (p := ⟨b, _, none⟩) hb).trans k5, (h.cell (p := ⟨b, _, none⟩) hb).trans k6, (h.cell (p := ⟨b, _, none⟩) hb).trans k7⟩

set_option maxRecDepth 100000 in
set_option maxHeartbeats 2000000 in
/-- The iterator over a line of waiters, where every round keeps what lay below n₀. -/
theorem all118_in (F : Fence) (n : Nat) (h118 : F.fn 118) (hro : F.round = none) (hn : 1 ≤ n) (l Bs n₀ bq oq b len cap : Nat) (zs : List Wt) (hreach : len * 40 ≤ 140737488351232) (hb : b < n₀) (J Jx : List Wt → World → Prop)
    (hY : ∀ pre x W, J pre W → pre.length < len → YieldAt F (n - 1) Try.prog l #[wtV x] W fun e W' =>
      (e = .returned (.bool true) ∧ J (pre ++ [x]) W' ∧ Below n₀ W W') ∨ (e = .returned (.bool false) ∧ Jx (pre ++ [x]) W'))
    (W : World) (hJa : AbidesFrom W.heap.size J) (hn₀ : n₀ ≤ W.heap.size) (hBs : W.cell? ⟨Bs, 0, none⟩ = some (.pointer (some ⟨bq, oq, none⟩))) (hbq : W.cell? ⟨bq, oq, none⟩ = some (.slice (some ⟨b, 0, none⟩) len cap))
    (hc : ∀ j, j < len → WtAt W b (j * 8) (zs[j]?.getD wt0)) (h0 : J [] W) :
    CallsIn F n Try.prog 118 #[.func (.yield l) #[] #[], .pointer (some ⟨Bs, 0, none⟩)] W fun e W' => (∃ v, e = .returned v) ∧
      ((∃ ys, ys = upto (fun j => zs[j]?.getD wt0) len ∧ J ys W') ∨ (∃ pre, (∃ k, k ≤ len ∧ pre = upto (fun j => zs[j]?.getD wt0) k) ∧ Jx pre W')) := by
  refine callsIn_of_wp Try.func118 rfl h118 ?_ hro
  simp only [Try.ntmps118, List.size_toArray, List.length_cons, List.length_nil, Nat.reduceAdd, Nat.reduceSub, Array.replicate_succ, Array.replicate_zero, List.push_toArray, List.append_toArray, List.nil_append, List.cons_append]
  gi_wp2
  gi_loopw [10] (fun i wr => ∃ k : Nat, k ≤ len ∧ i = .int .i64 k ∧ J (upto (fun j => zs[j]?.getD wt0) k) wr ∧ Below n₀ W wr ∧ W.heap.size ≤ wr.heap.size)
    (fun i _ => len - (intOf i).toNat)
  case atStart => exact ⟨0, Nat.zero_le _, rfl, h0, Below.refl _ _, Nat.le_refl _⟩
  case round =>
    obtain ⟨k, hk, rfl, hJs, hnx, hsz⟩ := hrel
    have hcx : k < len → WtAt wr b (k * 8) (zs[k]?.getD wt0) := fun h => (hc k h).below hnx hb
    by_cases hlt : k < len
    · have hJ1 := hJa _ wr (wr.alloc (.cells (wtCells (zs[k]?.getD wt0)).toArray 135)) none hJs (World.grownBy_alloc _ _ none) (fun r e => by cases e)
      obtain ⟨fn, tmps, assign, body, hy, hR⟩ := hY _ (zs[k]?.getD wt0) _ hJ1 (by rw [upto_length]; exact hlt)
      obtain ⟨k0, k1, k2, k3, k4, k5, k6, k7⟩ := hcx hlt
      have hB1 : Below n₀ wr (wr.alloc (.cells (wtCells (zs[k]?.getD wt0)).toArray 135)) := (Below.refl _ _).alloc (by omega) _
      simp only [wtV, wtCells] at hy hR hB1
      gi_wp2
      refine hR.mono ?_
      rintro e W3 (⟨rfl, hJ3, hk3⟩ | ⟨rfl, hJx3⟩)
      · gi_wp2
        go_roundw
        case rel => exact ⟨k + 1, by omega, by simp, by rw [upto_succ]; exact hJ3, (hnx.trans hB1).trans hk3, by have := hk3.size; simp at this; omega⟩
        case measure => simp [intOf]; omega
      · gi_wp2
        refine bodyPost_ret (results_none rfl _ _ _) rfl ?_
        exact ⟨⟨_, rfl⟩, .inr ⟨_, ⟨k + 1, by omega, (upto_succ _ _).symm⟩, hJx3⟩⟩
    · obtain rfl : k = len := by omega
      gi_wp2
      go_end0
      exact ⟨⟨_, rfl⟩, .inl ⟨_, rfl, hJs⟩⟩

set_option maxRecDepth 100000 in
set_option maxHeartbeats 1000000 in
/-- The same over a line in which nobody has ever stood. -/
theorem all118_nil_in (F : Fence) (n : Nat) (h118 : F.fn 118) (hro : F.round = none) (l Bs bq oq : Nat) (J : List Wt → World → Prop) (W : World) (hBs : W.cell? ⟨Bs, 0, none⟩ = some (.pointer (some ⟨bq, oq, none⟩)))
    (hbq : W.cell? ⟨bq, oq, none⟩ = some (.slice none 0 0)) (h0 : J [] W) :
    CallsIn F n Try.prog 118 #[.func (.yield l) #[] #[], .pointer (some ⟨Bs, 0, none⟩)] W fun e W' => (∃ v, e = .returned v) ∧ J [] W' := by
  refine callsIn_of_wp Try.func118 rfl h118 ?_ hro
  simp only [Try.ntmps118, List.size_toArray, List.length_cons, List.length_nil, Nat.reduceAdd, Nat.reduceSub, Array.replicate_succ, Array.replicate_zero, List.push_toArray, List.append_toArray, List.nil_append, List.cons_append]
  gi_wp2
  gi_loopw [10] (fun i wr => i = .int .i64 0 ∧ J [] wr) (fun _ _ => 0)
  case atStart => exact ⟨rfl, h0⟩
  case round =>
    obtain ⟨rfl, hJs⟩ := hrel
    gi_wp2
    go_end0
    exact ⟨⟨_, rfl⟩, hJs⟩

/-- The line at an address holds these waiters, all below n₀. -/
def LineWts (n₀ : Nat) (W : World) (bq oq : Nat) (zs : List Wt) : Prop :=
  bq < n₀ ∧ ((W.cell? ⟨bq, oq, none⟩ = some (.slice none 0 0) ∧ zs = []) ∨
    ∃ b cap, W.cell? ⟨bq, oq, none⟩ = some (.slice (some ⟨b, 0, none⟩) zs.length cap) ∧ b < n₀ ∧ ∀ j, j < zs.length → WtAt W b (j * 8) (zs[j]?.getD wt0))
theorem LineWts.below {n₀ : Nat} {A B : World} (h : Below n₀ A B) {bq oq : Nat} {zs : List Wt} : LineWts n₀ A bq oq zs → LineWts n₀ B bq oq zs
  | ⟨hq, .inl ⟨e1, e2⟩⟩ => ⟨hq, .inl ⟨(h.cell (p := ⟨bq, oq, none⟩) hq).trans e1, e2⟩⟩
  | ⟨hq, .inr ⟨b, cap, e, hb, hc⟩⟩ => ⟨hq, .inr ⟨b, cap, (h.cell (p := ⟨bq, oq, none⟩) hq).trans e, hb, fun j hj => (hc j hj).below h hb⟩⟩

theorem upto_allW (zs : List Wt) : upto (fun j => zs[j]?.getD wt0) zs.length = zs := by
  apply List.ext_getElem
  · simp [upto]
  · intro i h1 h2
    simp [upto, h2]
theorem upto_takeW (zs : List Wt) {k : Nat} (hk : k ≤ zs.length) : upto (fun j => zs[j]?.getD wt0) k = zs.take k := by
  apply List.ext_getElem
  · simp [upto, hk]
  · intro i h1 h2
    have : i < zs.length := by simp [upto] at h1; omega
    simp [upto, this]

theorem all118_stops (F : Fence) (n : Nat) (h118 : F.fn 118) (hro : F.round = none) (hn : 1 ≤ n) (Bs n₀ bq oq : Nat) (zs : List Wt) (hreach : zs.length * 40 ≤ 140737488351232) (w : World) (hBs : Bs < w.heap.size) (hn₀ : n₀ ≤ w.heap.size)
    (hc : w.cell? ⟨Bs, 0, none⟩ = some (.pointer (some ⟨bq, oq, none⟩))) (hL : LineWts n₀ w bq oq zs) :
    SeqStopsK F n Try.prog 118 #[.pointer (some ⟨Bs, 0, none⟩)] (fun x : Wt => #[wtV x]) (Below n₀) (fun ys => ys = zs) (fun pre => pre <+: zs) zs.length w := fun l J Jx W hW hJa _ hY h0 => by
  have hc' := (hW.cell (p := ⟨Bs, 0, none⟩) hBs).trans hc
  have hWs := hW.size
  obtain ⟨hq, ⟨e1, rfl⟩ | ⟨b, cap, e1, hb, hcs⟩⟩ := hL.below (hW.mono hn₀)
  · exact (all118_nil_in F n h118 hro l Bs bq oq J W hc' e1 h0).mono fun e W' ⟨he, hj⟩ => ⟨he, .inl ⟨_, rfl, hj⟩⟩
  · refine (all118_in F n h118 hro hn l Bs n₀ bq oq b zs.length cap zs hreach hb J Jx hY W hJa (by omega) hc' e1 hcs h0).mono ?_
    rintro e W' ⟨he, ⟨ys, rfl, hj⟩ | ⟨pre, ⟨k, hk, rfl⟩, hj⟩⟩
    · exact ⟨he, .inl ⟨_, upto_allW zs, hj⟩⟩
    · exact ⟨he, .inr ⟨_, by rw [upto_takeW zs hk]; exact List.take_prefix _ _, hj⟩⟩

theorem lineWts_of {w : World} {x o : Nat} {cs : Array Value} {T : TypeId} {fr : Nat × Nat} (hx : w.heap[x]? = some (.cells cs T fr)) {v : Value} {xs : List Wt} (ho : cs[o]? = some v) (hv : w.ownsRow 0 135 8 v xs.length (xs.flatMap wtCells)) : LineWts w.heap.size w x o xs := by
  refine ⟨blk_lt hx, ?_⟩
  rw [cell_of_blk hx, ho]
  rcases row_open hv with ⟨rfl, h0, _⟩ | ⟨g, cap, rest, rfl, hg, _⟩
  · exact .inl ⟨rfl, List.length_eq_zero_iff.1 h0⟩
  · refine .inr ⟨g, cap, rfl, blk_lt hg, fun j hj => ?_⟩
    have hget : ∀ i, i < 8 → w.cell? ⟨g, j * 8 + i, none⟩ = (wtCells xs[j])[i]? := fun i hi => by
      rw [cell_of_blk hg]
      exact flat_geta wt_len xs rest j i hj hi
    have he : xs[j]?.getD wt0 = xs[j] := by simp [hj]
    rw [he]
    exact ⟨hget 0 (by omega), hget 1 (by omega), hget 2 (by omega), hget 3 (by omega), hget 4 (by omega), hget 5 (by omega), hget 6 (by omega), hget 7 (by omega)⟩

theorem All75 (q : Value) (w : World) : Calls Try.prog 75 #[q] w fun en w' => en = .returned (.func (.func 118) #[] #[.pointer (some ⟨w.heap.size, 0, none⟩)]) ∧ w' = w.alloc (.cells q.cells 186) := by
  apply vk75
  simp [vc75]
end Go.Proofs.Ytaniphdbebdhhaa.Ipc
