/-
  The program's bus in memory; the contracts of its small functions. No condition.
-/
import Derived.Test.YtaniphdbebdhhaaSs1
import Derived.Test.YtaniphdbebdhhaaVkCl
import Derived.Test.YtaniphdbebdhhaaVc2
import Derived.Test.YtaniphdbebdhhaaIl
namespace Go.Proofs.Ytaniphdbebdhhaa.Ipc
open Go.Vk Vk.Ipc

def mCells (m : Msg) : List Value := [.int .u32 m.a, .int .u32 m.b, .int .u32 m.c, .int .u32 m.d, .int .u32 m.e, .int .u32 m.f]
def mV (m : Msg) : Value := .agg (mCells m).toArray
def wtCells (x : Wt) : List Value := [.int .i64 x.th, .int .i64 x.how, .int .u32 x.m.a, .int .u32 x.m.b, .int .u32 x.m.c, .int .u32 x.m.d, .int .u32 x.m.e, .int .u32 x.m.f]
def wtV (x : Wt) : Value := .agg (wtCells x).toArray
def outCells (o : Out) : List Value := [.int .i64 o.err, .int .i64 o.peer, .int .u32 o.m.a, .int .u32 o.m.b, .int .u32 o.m.c, .int .u32 o.m.d, .int .u32 o.m.e, .int .u32 o.m.f, .bool o.waits, .bool o.asks, .bool o.fault]
def outV (o : Out) : Value := .agg (outCells o).toArray
theorem wt_len (x : Wt) : (wtCells x).length = 8 := rfl
theorem m_len (x : Msg) : (mCells x).length = 6 := rfl
theorem out_len (x : Out) : (outCells x).length = 11 := rfl
theorem wt_one (x : Wt) : (wtCells x).all Value.oneCell' = true := rfl
theorem out_one (x : Out) : (outCells x).all Value.oneCell' = true := rfl

theorem z66 : zero66.size = 11 := by kernel_rfl
theorem z135 : zero135.size = 8 := by kernel_rfl
theorem lies66 : lies Try.prog 66 = some (some 11) := by kernel_rfl
theorem lies135 : lies Try.prog 135 = some (some 8) := by kernel_rfl

theorem writeN_full (cs : Array Value) (vs : List Value) (h : vs.length = cs.size) : writeN cs 0 vs = vs.toArray := by
  apply Array.ext_getElem?
  intro j
  rw [writeN_get _ _ _ _ (by omega)]
  by_cases hj : j < vs.length
  · rw [if_pos ⟨by omega, by omega⟩, Nat.sub_zero]; simp
  · rw [if_neg (by omega), Array.getElem?_eq_none (by omega), Array.getElem?_eq_none (by simpa using by omega)]
theorem readN_full (vs : List Value) {n : Nat} (h : vs.length = n) : readN vs.toArray 0 n = some vs := readN_of _ _ _ _ h fun j _ => by simp

/-- A variable written full and handed back. -/
theorem exit_agg {T n b : Nat} {vs : List Value} {w : World} {cs : Array Value} (hl : lies Try.prog T = some (some n)) (hb : w.heap[b]? = some (.cells cs T (0, 0))) (hs : cs.size = n) (hv : vs.length = n) (h1 : vs.all Value.oneCell' = true) {R : Value → World → Prop}
    (h : R (.agg vs.toArray) (putB w b (.cells vs.toArray T (0, 0)))) : stn n (.pointer (some ⟨b, 0, none⟩)) (.agg vs.toArray) w fun _ w => resK Try.prog [(.pointer (some ⟨b, 0, none⟩), some T)] w R := by
  simp only [stn_ptr, hb, blkK_cells]
  refine ⟨trivial, by simpa using hv, by omega, by simpa using h1, ?_⟩
  rw [writeN_full _ _ (by omega)]
  exact resK_agg hl (putB_same (blk_lt hb) _) (readN_full vs hv) h
theorem exit66 {b : Nat} {o : Out} {w : World} {cs : Array Value} (hb : w.heap[b]? = some (.cells cs 66 (0, 0))) (hs : cs.size = 11) {R : Value → World → Prop}
    (h : R (outV o) (putB w b (.cells (outCells o).toArray 66 (0, 0)))) : stn 11 (.pointer (some ⟨b, 0, none⟩)) (outV o) w fun _ w => resK Try.prog [(.pointer (some ⟨b, 0, none⟩), some 66)] w R :=
  exit_agg lies66 hb hs (out_len o) (out_one o) h
theorem exit135 {b : Nat} {o : Wt} {w : World} {cs : Array Value} (hb : w.heap[b]? = some (.cells cs 135 (0, 0))) (hs : cs.size = 8) {R : Value → World → Prop}
    (h : R (wtV o) (putB w b (.cells (wtCells o).toArray 135 (0, 0)))) : stn 8 (.pointer (some ⟨b, 0, none⟩)) (wtV o) w fun _ w => resK Try.prog [(.pointer (some ⟨b, 0, none⟩), some 135)] w R :=
  exit_agg lies135 hb hs (wt_len o) (wt_one o) h
/-- A variable written full. -/
theorem full135 {b : Nat} {o : Wt} {w : World} {cs : Array Value} (hb : w.heap[b]? = some (.cells cs 135 (0, 0))) (hs : cs.size = 8) {K : Value → World → Prop} (h : K undef (putB w b (.cells (wtCells o).toArray 135 (0, 0)))) :
    stn 8 (.pointer (some ⟨b, 0, none⟩)) (wtV o) w K := by
  unfold wtV
  simp only [stn_ptr, hb, blkK_cells]
  refine ⟨trivial, rfl, by omega, rfl, ?_⟩
  rw [writeN_full _ _ (by rw [hs]; rfl)]
  exact h
theorem full66 {b : Nat} {o : Out} {w : World} {cs : Array Value} (hb : w.heap[b]? = some (.cells cs 66 (0, 0))) (hs : cs.size = 11) {K : Value → World → Prop} (h : K undef (putB w b (.cells (outCells o).toArray 66 (0, 0)))) :
    stn 11 (.pointer (some ⟨b, 0, none⟩)) (outV o) w K := by
  unfold outV
  simp only [stn_ptr, hb, blkK_cells]
  refine ⟨trivial, rfl, by omega, rfl, ?_⟩
  rw [writeN_full _ _ (by rw [hs]; rfl)]
  exact h

/-- The same, where the store is open already. -/
theorem exitO {T n b : Nat} {vs : List Value} {w : World} {cs : Array Value} (hl : lies Try.prog T = some (some n)) (hb : w.heap[b]? = some (.cells cs T (0, 0))) (hs : cs.size = n) (hv : vs.length = n) (h1 : vs.all Value.oneCell' = true) {R : Value → World → Prop}
    (h : R (.agg vs.toArray) (putB w b (.cells vs.toArray T (0, 0)))) : vs.length = n ∧ n ≤ cs.size ∧ (∀ x, x ∈ vs → x.oneCell' = true) ∧ resK Try.prog [(.pointer (some ⟨b, 0, none⟩), some T)] (putB w b (.cells (writeN cs 0 vs) T (0, 0))) R := by
  refine ⟨hv, by omega, by simpa using h1, ?_⟩
  rw [writeN_full _ _ (by omega)]
  exact resK_agg hl (putB_same (blk_lt hb) _) (readN_full vs hv) h
theorem exitO135 {b : Nat} {o : Wt} {w : World} {cs : Array Value} (hb : w.heap[b]? = some (.cells cs 135 (0, 0))) (hs : cs.size = 8) {R : Value → World → Prop} (h : R (wtV o) (putB w b (.cells (wtCells o).toArray 135 (0, 0)))) :
    (wtCells o).length = 8 ∧ 8 ≤ cs.size ∧ (∀ x, x ∈ wtCells o → x.oneCell' = true) ∧ resK Try.prog [(.pointer (some ⟨b, 0, none⟩), some 135)] (putB w b (.cells (writeN cs 0 (wtCells o)) 135 (0, 0))) R :=
  exitO lies135 hb hs (wt_len o) (wt_one o) h

/-! ### What is built -/
theorem b66r (e : Int) (ty : TypeId) (w : World) (K : Value → World → Prop) : opK Try.prog (.build 66 #[(0, .const (.int .i64 e)), (1, .const (.int .i64 (-1)))]) ty w K = K (outV (refused e)) w := opK_of (by kernel_rfl) rfl
theorem b66t (p : Int) (m : Msg) (x y : Bool) (ty : TypeId) (w : World) (K : Value → World → Prop) :
    opK Try.prog (.build 66 #[(1, .const (.int .i64 p)), (2, .const (mV m)), (4, .const (.bool x)), (5, .const (.bool y))]) ty w K = K (outV ⟨0, p, m, x, y, false⟩) w := opK_of (by kernel_rfl) rfl
theorem b66m (p : Int) (m : Msg) (ty : TypeId) (w : World) (K : Value → World → Prop) :
    opK Try.prog (.build 66 #[(1, .const (.int .i64 p)), (2, .const (mV m))]) ty w K = K (outV ⟨0, p, m, false, false, false⟩) w := opK_of (by kernel_rfl) rfl
theorem b66p (p : Int) (ty : TypeId) (w : World) (K : Value → World → Prop) : opK Try.prog (.build 66 #[(1, .const (.int .i64 p))]) ty w K = K (outV ⟨0, p, .zero, false, false, false⟩) w := opK_of (by kernel_rfl) rfl
theorem b66w (ty : TypeId) (w : World) (K : Value → World → Prop) : opK Try.prog (.build 66 #[(1, .const (.int .i64 (-1))), (3, .const (.bool true))]) ty w K = K (outV Vk.Ipc.waiting) w := opK_of (by kernel_rfl) rfl
theorem b64 (x : Int) (ty : TypeId) (w : World) (K : Value → World → Prop) : opK Try.prog (.build 64 #[(2, .const (.int .u32 x))]) ty w K = K (mV (.badge x)) w := opK_of (by kernel_rfl) rfl
theorem b135m (t h : Int) (m : Msg) (ty : TypeId) (w : World) (K : Value → World → Prop) :
    opK Try.prog (.build 135 #[(0, .const (.int .i64 t)), (1, .const (.int .i64 h)), (2, .const (mV m))]) ty w K = K (wtV ⟨t, h, m⟩) w := opK_of (by kernel_rfl) rfl
theorem b135 (t h : Int) (ty : TypeId) (w : World) (K : Value → World → Prop) :
    opK Try.prog (.build 135 #[(0, .const (.int .i64 t)), (1, .const (.int .i64 h))]) ty w K = K (wtV ⟨t, h, .zero⟩) w := opK_of (by kernel_rfl) rfl
theorem f135_0 (x : Wt) (ty : TypeId) (w : World) (K : Value → World → Prop) : opK Try.prog (.field 135 (.const (wtV x)) 0) ty w K = K (.int .i64 x.th) w := opK_of (by kernel_rfl) rfl
theorem f135_1 (x : Wt) (ty : TypeId) (w : World) (K : Value → World → Prop) : opK Try.prog (.field 135 (.const (wtV x)) 1) ty w K = K (.int .i64 x.how) w := opK_of (by kernel_rfl) rfl
theorem s135_0 (x : Wt) (ty : TypeId) (w : World) (K : Value → Prop) : stK Try.prog (.field 135 (.const (wtV x)) 0) ty w K = K (.int .i64 x.th) := stK_of (by kernel_rfl) rfl
theorem wtV_cells (x : Wt) : (wtV x).cells = (wtCells x).toArray := rfl
theorem mV_cells (x : Msg) : (mV x).cells = (mCells x).toArray := rfl

/-! ### Small functions -/
set_option maxRecDepth 100000 in
theorem refused_calls (e : Int) (w : World) : Calls Try.prog 57 #[.int .i64 e] w fun en w' => en = .returned (outV (refused e)) ∧ Upd (fun _ => False) w w' := by
  apply vk57
  unfold vc57
  simp [b66r]
  refine exit66 (alloc_new _ _) z66 ?_
  exact ⟨rfl, ((Upd.refl _ w).alloc _).putB (.inl (Nat.le_refl _)) _⟩

theorem Len_calls {w : World} {x o : Nat} {cs : Array Value} {T : TypeId} {fr : Nat × Nat} {a : Option Addr} {n c : Nat} (hb : w.heap[x]? = some (.cells cs T fr)) (ho : cs[o]? = some (.slice a n c)) :
    Calls Try.prog 58 #[.pointer (some ⟨x, o, none⟩)] w fun en w' => en = .returned (.int .i64 n) ∧ w' = w := by
  apply vk58
  simp [vc58, hb, ho]

set_option maxRecDepth 100000 in
theorem First_calls {w : World} {x o : Nat} {cs : Array Value} {T : TypeId} {fr : Nat × Nat} {v : Value} {a : Wt} {l : List Wt} (hb : w.heap[x]? = some (.cells cs T fr)) (ho : cs[o]? = some v) (hv : w.ownsRow 0 135 8 v (a :: l).length ((a :: l).flatMap wtCells)) :
    Calls Try.prog 131 #[.pointer (some ⟨x, o, none⟩)] w fun en w' => en = .returned (wtV a) ∧ Upd (fun _ => False) w w' := by
  apply vk131
  rcases row_open hv with ⟨_, h0, _⟩ | ⟨g, cap, rest, rfl, hg, _⟩
  · simp at h0
  have rd := flat_read wt_len (a :: l) rest 0 (by simp)
  simp only [Nat.zero_mul, List.getElem_cons_zero] at rd
  have hxl := blk_lt hb
  have hgl := blk_lt hg
  have hb' : (w.alloc (.cells zero135 135)).heap[x]? = some (.cells cs T fr) := (alloc_old hxl _).trans hb
  have hg' : (w.alloc (.cells zero135 135)).heap[g]? = some (.cells ((a :: l).flatMap wtCells ++ rest).toArray 135 (0, 0)) := (alloc_old hgl _).trans hg
  generalize ((a :: l).flatMap wtCells ++ rest).toArray = cs2 at hg' rd
  have hpos : (0 : Int) < ((a :: l).length : Nat) := by simp
  unfold vc131
  simp [hb', ho, -List.length_cons]
  rw [opK_ix_128 _ _ _ _ _ _ (Int.le_refl 0) hpos]
  simp [hg', rd]
  refine exitO135 (o := a) (alloc_new _ _) z135 ?_
  exact ⟨rfl, ((Upd.refl _ w).alloc _).putB (.inl (Nat.le_refl _)) _⟩

set_option maxRecDepth 100000 in
theorem told_calls (p how : Int) (m : Msg) (w : World) : Calls Try.prog 106 #[.int .i64 p, .int .i64 how, mV m] w fun en w' => en = .returned (outV (told p how m)) ∧ Upd (fun _ => False) w w' := by
  apply vk106
  unfold vc106
  have hu := (((Upd.refl (fun _ => False) w).alloc (.cells (mV m).cells 64)).alloc (.cells zero66 66))
  have h0 : ((w.alloc (.cells (mV m).cells 64)).alloc (.cells zero66 66)).heap[w.heap.size]? = some (.cells (mCells m).toArray 64 (0, 0)) := (alloc_old (by simp) _).trans (alloc_new _ _)
  have h1 : ((w.alloc (.cells (mV m).cells 64)).alloc (.cells zero66 66)).heap[w.heap.size + 1]? = some (.cells zero66 66 (0, 0)) := by
    rw [show w.heap.size + 1 = (w.alloc (.cells (mV m).cells 64)).heap.size by simp]
    exact alloc_new _ _
  have rd := readN_full (mCells m) (m_len m)
  by_cases c3 : how = 3
  · simp [h0, rd, c3]
    rw [show Value.agg (mCells m).toArray = mV m from rfl, b66t]
    refine exit66 h1 z66 ?_
    exact ⟨by simp [told], hu.putB (.inl (by simp)) _⟩
  · by_cases c7 : how = 7
    · simp [h0, rd, c7]
      rw [show Value.agg (mCells m).toArray = mV m from rfl, b66t]
      refine exit66 h1 z66 ?_
      exact ⟨by simp [told], hu.putB (.inl (by simp)) _⟩
    · simp [h0, rd]
      rw [show Value.agg (mCells m).toArray = mV m from rfl, b66t]
      refine exit66 h1 z66 ?_
      exact ⟨by simp [told, c3, c7, show (how == 3) = false by simpa using c3, show (how == 7) = false by simpa using c7], hu.putB (.inl (by simp)) _⟩
end Go.Proofs.Ytaniphdbebdhhaa.Ipc
