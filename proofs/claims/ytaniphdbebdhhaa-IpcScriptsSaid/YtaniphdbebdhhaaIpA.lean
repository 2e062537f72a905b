/-
  The bus's Line and Where. No condition.
-/
import Derived.Test.YtaniphdbebdhhaaIp9
import Derived.RangeFuncNested
namespace Go.Proofs.Ytaniphdbebdhhaa.Ipc
open Go.Vk Go.RowKit Go.Shelf Vk.Ipc
attribute [local go_sem] Oper.semAt_some

theorem ilook {P : Program} {T K E : TypeId} (hT : P.underlying T = some (.map K E)) (hk : P.underlying K = some (.int .i64)) {w : World} {m : Nat} {l : List Ent3} {c : Nat} (h : w.heap[m]? = some (.map (ents l) c)) {t : Int} {v : Value} (hg : mget l t = some v) :
    (Instr.lookup T (.map (some m)) (.int .i64 t) false).run P w = .ok v w := by
  have hf := findI_get t l 0
  cases hg2 : Go.Vk.findI t l 0 with
  | none => rw [hg2, hg] at hf; cases hf
  | some x =>
    rw [hg2, hg] at hf
    have hv : x.2 = v := by simpa using hf
    simp [Instr.lookup, underlying, hT, getObj_run h, checkKey_int hk, findKey_ents hk, hg2, hv]
theorem ilook_none {P : Program} {T K E : TypeId} (hT : P.underlying T = some (.map K E)) (hk : P.underlying K = some (.int .i64)) {z : Value} (hz : ∀ w, (zeroValue E).run P w = .ok z w) {w : World} {m : Nat} {l : List Ent3} {c : Nat} (h : w.heap[m]? = some (.map (ents l) c)) {t : Int} (hg : mget l t = none) :
    (Instr.lookup T (.map (some m)) (.int .i64 t) false).run P w = .ok z w := by
  have hf := findI_get t l 0
  cases hg2 : Go.Vk.findI t l 0 with
  | none => simp [Instr.lookup, underlying, hT, getObj_run h, checkKey_int hk, findKey_ents hk, hg2, hz]
  | some x => rw [hg2, hg] at hf; cases hf
theorem ilook_ok_none {P : Program} {T K E : TypeId} (hT : P.underlying T = some (.map K E)) (hk : P.underlying K = some (.int .i64)) {z : Value} (hz : ∀ w, (zeroValue E).run P w = .ok z w) {w : World} {m : Nat} {l : List Ent3} {c : Nat} (h : w.heap[m]? = some (.map (ents l) c)) {t : Int} (hg : mget l t = none) :
    (Instr.lookup T (.map (some m)) (.int .i64 t) true).run P w = .ok (.tuple #[z, .bool false]) w := by
  have hf := findI_get t l 0
  cases hg2 : Go.Vk.findI t l 0 with
  | none => simp [Instr.lookup, underlying, hT, getObj_run h, checkKey_int hk, findKey_ents hk, hg2, hz]
  | some x => rw [hg2, hg] at hf; cases hf
theorem ilook_ok {P : Program} {T K E : TypeId} (hT : P.underlying T = some (.map K E)) (hk : P.underlying K = some (.int .i64)) {w : World} {m : Nat} {l : List Ent3} {c : Nat} (h : w.heap[m]? = some (.map (ents l) c)) {t : Int} {v : Value} (hg : mget l t = some v) :
    (Instr.lookup T (.map (some m)) (.int .i64 t) true).run P w = .ok (.tuple #[v, .bool true]) w := by
  have hf := findI_get t l 0
  cases hg2 : Go.Vk.findI t l 0 with
  | none => rw [hg2, hg] at hf; cases hf
  | some x =>
    rw [hg2, hg] at hf
    have hv : x.2 = v := by simpa using hf
    simp [Instr.lookup, underlying, hT, getObj_run h, checkKey_int hk, findKey_ents hk, hg2, hv]

set_option maxRecDepth 100000 in
theorem all75_in (F : Fence) (n : Nat) (h75 : F.fn 75) (hro : F.round = none) (w : World) (q : Nat) (o : Nat) :
    CallsIn F n Try.prog 75 #[.pointer (some ⟨q, o, none⟩)] w fun e w' => e = .returned (.func (.func 118) #[] #[.pointer (some ⟨w.heap.size, 0, none⟩)]) ∧ w' = w.alloc (.cells #[.pointer (some ⟨q, o, none⟩)] 186) := by
  refine callsIn_of_wp Try.func75 rfl h75 ?_ hro
  simp only [Try.ntmps75, List.size_toArray, List.length_cons, List.length_nil, Nat.reduceAdd, Nat.reduceSub, Array.replicate_succ, Array.replicate_zero, List.push_toArray, List.append_toArray, List.nil_append, List.cons_append]
  gi_wp2
  go_ret
  exact ⟨rfl, rfl⟩

def lnAct (x : Nat) (i : Int) (m1 q s b : Nat) (wx : Wt) : Act :=
  { tmps := #[.pointer (some ⟨x, 0, none⟩), .int .i64 i, undef, undef, .slice none 0 0, .int .i64 0, .pointer (some ⟨q, 0, none⟩), .pointer (some ⟨s, 0, none⟩), .pointer (some ⟨b, 0, none⟩),
      .pointer (some ⟨x, 0, none⟩), .pointer (some ⟨x, 0, none⟩), .pointer (some ⟨x, 0, none⟩), .map (some m1), .int .i64 i, .pointer (some ⟨q, 0, none⟩), .pointer (some ⟨q, 0, none⟩), .bool false, .pointer (some ⟨q, 0, none⟩), .pointer (some ⟨q, 0, none⟩), .pointer (some ⟨q, 1, none⟩),
      .func (.func 118) #[] #[.pointer (some ⟨s + 1, 0, none⟩)], wtV wx, undef, undef, undef, undef, undef, undef], defers := [] }

set_option maxRecDepth 100000 in
set_option maxHeartbeats 2000000 in
theorem line22_in (F : Fence) (n : Nat) (h22 : F.fn 22) (h75 : F.fn 75) (h118 : F.fn 118) (hro : F.round = none) (hn : 3 ≤ n) {w : World} {x m1 q : Nat} {l1 : List Ent3} {c1 : Nat} {i : Int} {zs : List Wt}
    (hx : w.cell? ⟨x, 0, none⟩ = some (.map (some m1))) (hm : w.heap[m1]? = some (.map (ents l1) c1)) (hg : mget l1 i = some (.pointer (some ⟨q, 0, none⟩))) (hL : LineWts w.heap.size w q 1 zs) (hlen : zs.length < 1000000000) :
    CallsIn F n Try.prog 22 #[.pointer (some ⟨x, 0, none⟩), .int .i64 i] w fun e W' => ∃ v, e = .returned (.tuple #[v, .int .i64 0]) ∧ W'.ownsRow w.heap.size 3 1 v zs.length (nums (ths zs)) ∧ Below w.heap.size w W' := by
  have h1 : 1 ≤ n := by omega
  obtain ⟨i0, hi, hz0, hz1, hz2⟩ := info_parts info3
  refine callsIn_of_wp_marks Try.func22 rfl h22 ?_ hro
  simp only [Try.ntmps22, List.size_toArray, List.length_cons, List.length_nil, Nat.reduceAdd, Nat.reduceSub, Array.replicate_succ, Array.replicate_zero, List.push_toArray, List.append_toArray, List.nil_append, List.cons_append]
  have hlk := ilook under123 under3 hm hg
  gi_wp2_with (gi_at_call 75; refine (all75_in F (n - 1) h75 hro _ q 1).mono ?_; rintro e w' ⟨rfl, rfl⟩)
  have hB0 : Below w.heap.size w ((w.alloc (.cells #[.slice none 0 0] 69)).alloc (.cells #[.pointer (some ⟨q, 1, none⟩)] 186)) := ((Below.refl _ w).alloc (Nat.le_refl _) _).alloc (by simp) _
  have bO : Boxed ((w.alloc (.cells #[.slice none 0 0] 69)).alloc (.cells #[.pointer (some ⟨q, 1, none⟩)] 186)) w.heap.size 69 (.slice none 0 0) := by
    unfold Boxed
    rw [alloc_old (by simp)]
    exact alloc_new _ _
  have hcB : ((w.alloc (.cells #[.slice none 0 0] 69)).alloc (.cells #[.pointer (some ⟨q, 1, none⟩)] 186)).cell? ⟨w.heap.size + 1, 0, none⟩ = some (.pointer (some ⟨q, 1, none⟩)) := by
    have := alloc_new (w.alloc (.cells #[.slice none 0 0] 69)) (.cells #[.pointer (some ⟨q, 1, none⟩)] 186)
    rw [show (w.alloc (.cells #[.slice none 0 0] 69)).heap.size = w.heap.size + 1 by simp] at this
    rw [cell_of_blk this]
    rfl
  refine wpIn_rangeFunc_ownH hro h1 (gf := 118) (lb := #[.pointer (some ⟨w.heap.size + 1, 0, none⟩)]) rfl h118 (enters_of Try.func118 (by kernel_rfl) rfl)
    (all118_stops F (n - 1) h118 hro (by omega) (w.heap.size + 1) w.heap.size q 1 zs (by omega) _ (by simp) (by simp; omega) hcB (hL.below hB0))
    belowK_t (belowK_b (by simp; omega)) (Below.refl _ _) (fun _ => rfl)
    (fun pre W => (∃ v, Boxed W w.heap.size 69 v ∧ W.ownsRow w.heap.size 3 1 v pre.length ((ths pre).map (Value.int .i64)) ∧ True) ∧ Below w.heap.size w W)
    (fun _ _ _ => False)
    (OwnFrom.and (Own.from (holdsRow_own w.heap.size w.heap.size 69 3 1 (fun pre : List Wt => pre.length) (fun pre => (ths pre).map (Value.int .i64)) (fun _ _ => True)) _) (ownFrom_below (Nat.le_refl _) (by simp; omega)))
    (fun _ _ _ _ _ hs _ _ => hs)
    ⟨⟨_, bO, World.ownsRow_nil _ _ _ _, trivial⟩, hB0⟩
    (fun wx a' W => ∃ b, w.heap.size < b ∧ a' = lnAct x i m1 q w.heap.size b wx ∧ W.heap[b]? = some (.cells (wtCells wx).toArray 135 (0, 0)))
    (fun wx a' _ X Y row hs hg hr => by
      obtain ⟨b, h1, h2, h3⟩ := hs
      refine ⟨b, h1, h2, (hg.block b (blk_lt h3) fun e => ?_).trans h3⟩
      obtain ⟨_, o, ho, hc⟩ := hr b e.symm
      rw [h3] at ho
      cases ho
      cases hc) ?assign ?body ?done ?stop
  case assign =>
    rintro l pre wx W K ⟨⟨v, hv, hrow, _⟩, hB⟩ hK
    have hsz := hB.size
    simp only [wtV, wtCells]
    gi_wp2
    refine hK (lnAct x i m1 q w.heap.size W.heap.size wx) (W.alloc (.cells (wtCells wx).toArray 135)) ((KeepsOthers.alloc W _).from _) ((Below.refl _ W).alloc hsz _) ⟨⟨v, ?_, hrow.alloc _, trivial⟩, hB.alloc hsz _⟩ ⟨W.heap.size, ?_, rfl, alloc_new _ _⟩
    · exact (alloc_old (blk_lt hv) _).trans hv
    · have := blk_lt hv; exact this
  case body =>
    rintro l pre wx a' W _ _ ⟨⟨v, hv, hrow, _⟩, hB⟩ ⟨b, hb, rfl, hbx⟩ hlt
    have hc := hv.cell
    have hcb : W.cell? ⟨b, 0, none⟩ = some (.int .i64 wx.th) := by rw [cell_of_blk hbx]; rfl
    unfold lnAct
    gi_wp2_with (gi_at_builtin; refine wpListIn_append_own _ rfl _ _ 69 rfl w.heap.size 3 i0 (.int .i64 0) 1 8 Try.underlying69 hi hz0 hz1 hz2 rfl (by decide) _ _ _ rfl (hrow.alloc _) ⟨W.heap.size, 0, none⟩ 1 1 [.int .i64 wx.th] rfl rfl (cell_one_new _ _ _) (by simp [Value.oneCell']) (by simp [maxLen]; omega) (by omega) (by have := hB.size; simp; omega) ?_; intro v' w1 hown' hgrow _; obtain ⟨g', cap', rfl⟩ := ownsRow_succ hown'; obtain ⟨hv1, hv2, hr2, hk2, hb2⟩ := hv.appended (by decide) hrow hB.size (Nat.le_refl _) hown' hgrow; have hc1 := hv1.cell; have hf1 := hv1.frozen)
    exact ⟨hk2.from _, hb2, ⟨_, hv2, by simpa [ths] using hr2, trivial⟩, hB.trans hb2⟩
  case done =>
    rintro D ys W hD rfl ⟨⟨v, hv, hrow, _⟩, hB⟩ hK
    have hc := hv.cell
    gi_wp2
    refine ⟨by simp, .inl ⟨_, _, rfl, run_takeDeferred hK, ?_⟩⟩
    refine ⟨.tuple #[v, .int .i64 0], ?_, v, rfl, ownsRow_putObj hrow _ hK rfl, hB.trans (belowK_b (w := w) (Nat.le_refl _) W D _ _ (by simp at hD; omega) hK rfl rfl)⟩
    simp [results, Try.f22, go_sem]
  case stop =>
    rintro D c pre W _ _ h _
    exact h.elim

open Vk.Ipc in
section
variable {own : Nat → Option BTag} {w : World} {x : Nat} {S : PB} {m1 m2 : Nat} {l1 : List Ent3} {c1 : Nat} {l2 : List Ent3} {c2 : Nat} {pb : Int → Nat} {lv : Int → Value}

theorem below_upd {w w' : World} (h : Below w.heap.size w w') : Upd (fun _ => False) w w' := ⟨h.os, h.tape, h.output, h.size, fun k hk _ => h.block k hk⟩

set_option maxRecDepth 100000 in
set_option maxHeartbeats 1000000 in
theorem line22_none (F : Fence) (n : Nat) (h22 : F.fn 22) (hro : F.round = none) {w : World} {x m1 : Nat} {l1 : List Ent3} {c1 : Nat} {i : Int}
    (hx : w.cell? ⟨x, 0, none⟩ = some (.map (some m1))) (hm : w.heap[m1]? = some (.map (ents l1) c1)) (hg : mget l1 i = none) :
    CallsIn F n Try.prog 22 #[.pointer (some ⟨x, 0, none⟩), .int .i64 i] w fun e W' => e = .returned (.tuple #[.slice none 0 0, .int .i64 6]) ∧ W' = w := by
  refine callsIn_of_wp Try.func22 rfl h22 ?_ hro
  simp only [Try.ntmps22, List.size_toArray, List.length_cons, List.length_nil, Nat.reduceAdd, Nat.reduceSub, Array.replicate_succ, Array.replicate_zero, List.push_toArray, List.append_toArray, List.nil_append, List.cons_append]
  have hlk := ilook_none under123 under3 zero127 hm hg
  gi_wp2
  exact bodyPost_ret (v := .tuple #[.slice none 0 0, .int .i64 6]) (by simp [results, Try.f22, go_sem]) rfl ⟨rfl, rfl⟩

/-- Who waits at a place. -/
theorem Line_calls (h : BusAt own w x S m1 m2 l1 c1 l2 c2 pb lv) (hq : ∀ i p, S.places i = some p → p.line.length < 1000000000) (i : Int) :
    Calls Try.prog 22 #[.pointer (some ⟨x, 0, none⟩), .int .i64 i] w fun en w' => ∃ v, en = .returned (.tuple #[v, .int .i64 (S.line i).2]) ∧ Upd (fun _ => False) w w' ∧
      w'.ownsRow 0 3 1 v (S.line i).1.length (nums (S.line i).1) ∧ (∀ b, v.ownBlock = some b → w.heap.size ≤ b) := by
  unfold PB.line
  have hx : w.cell? ⟨x, 0, none⟩ = some (.map (some m1)) := by rw [cell_of_blk h.head]; rfl
  cases hp : S.places i with
  | none =>
    refine ((line22_none { fn := fun _ => True } 3 trivial rfl hx h.map1 (by rw [h.k1, hp]; rfl)).calls fun k d hd => by cases hd).mono ?_
    rintro e w' ⟨rfl, rfl⟩
    exact ⟨_, rfl, Upd.refl _ _, World.ownsRow_nil w' 0 3 1, fun b hb => by simp [Value.ownBlock] at hb⟩
  | some p =>
    have hL := lineWts_of (o := 1) (h.cells hp) rfl (h.line i p hp)
    refine ((line22_in { fn := fun _ => True } 3 trivial trivial trivial rfl (Nat.le_refl _) hx h.map1 (by rw [h.k1, hp]; rfl) hL (hq i p hp)).calls fun k d hd => by cases hd).mono ?_
    rintro e w' ⟨v, rfl, hrow, hb⟩
    obtain ⟨hr, hbase⟩ := row_base hrow
    exact ⟨v, rfl, below_upd hb, by simpa [ths] using hr, hbase⟩
end
end Go.Proofs.Ytaniphdbebdhhaa.Ipc
