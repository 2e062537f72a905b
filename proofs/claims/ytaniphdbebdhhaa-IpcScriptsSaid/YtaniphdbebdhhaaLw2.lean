/-
  Contracts of the law's lent. No condition.
-/
import Derived.Test.YtaniphdbebdhhaaLw1
import Derived.Laws.CopyRow
import Derived.Laws.MakeOwn
namespace Go.Proofs.Ytaniphdbebdhhaa
open Go.Vk Vk.Sched

theorem run_copyN {P : Program} (w : World) (dT sT ty elem : TypeId) (g dLen dCap : Nat) (a : Addr) (sLen sCap : Nat) (cur : Array Value) (t : TypeId) (cs : List Value) (i : TypeInfo)
    (hu : P.underlying dT = some (.slice elem)) (hi : P.info? elem = some i)
    (hg : w.heap[g]? = some (.cells cur t (0, 0))) (hle : sLen ≤ dLen) (hn : cs.length = sLen * i.size)
    (hsrc : ∀ j v, cs[j]? = some v → w.cell? (a.add j) = some v) (hfit : cs.length ≤ cur.size) (h1 : ∀ v ∈ cs, v.oneCell' = true) :
    (Builtin.copy_ #[dT, sT] ty #[.slice (some ⟨g, 0, none⟩) dLen dCap, .slice (some a) sLen sCap]).run P w = .ok (goInt sLen) (putB w g (.cells (writeN cur 0 cs) t (0, 0))) := by
  have hl := run_loadCells_list (P := P) w a cs hsrc
  have hst := storeCells_blk (P := P) (o := 0) (T := t) cs 0 w cur hg (by simpa using hfit) (by simpa using h1)
  have hm : Nat.min sLen dLen = sLen := Nat.min_eq_left hle
  simp [Builtin.copy_, run_underlying hu, Builtin.lenOf, Builtin.firstCells, sizeOf, typeInfo, hi, hm, ← hn, hl, hst]

theorem mk24 (n : Nat) (hn : n * 16 ≤ 140737488355328) (ty : TypeId) (w : World) (K : Value → World → Prop) :
    opK Try.prog (.makeSlice 24 (.const (.int .i64 n)) (.const (.int .i64 n))) ty w K = K (.slice (some ⟨w.heap.size, 0, none⟩) n n) (w.alloc (.cells (madeCells #[.int .i64 0, .int .i64 0] (n * 2)) 36)) := by
  obtain ⟨i, h1, h2, h3, h4⟩ := turn_info
  have hr := run_make w 24 36 i _ Try.underlying24 h1 h2 .i64 .i64 n n (by omega) (by omega) (by rw [h4]; omega) (by omega)
  rw [h3] at hr
  refine opK_of ?_ rfl
  simp only [Int.toNat_natCast] at hr
  simp only [execOp, bare, Act.eval, Sem.run_bind, hr, Result.andThen_ok]
  rfl

theorem bld36 (a b : Int) (ty : TypeId) (w : World) (K : Value → World → Prop) :
    opK Try.prog (.build 36 #[(0, .const (.int .i64 a)), (1, .const (.int .i64 b))]) ty w K = K (.agg #[.int .i64 a, .int .i64 b]) w := opK_of (by kernel_rfl) rfl

theorem made_zeros (n : Nat) : (madeCells #[.int .i64 0, .int .i64 0] n).toList = List.replicate n (.int .i64 0) := by
  apply List.ext_getElem
  · simp [size_madeCells]
  · intro j h1 h2
    simp only [madeCells, Array.toList_map, List.getElem_map, List.getElem_replicate]
    simp
    rcases Nat.mod_two_eq_zero_or_one j with h | h <;> simp [h]

set_option maxRecDepth 100000 in
/-- The turns as they are lent: two more behind them. -/
theorem lent_calls {w : World} {v : Value} {ts : List (Int × Int)} (hv : RowAt w 2 v ts.length (turnCells ts)) (hbig : (ts.length + 2) * 16 ≤ 140737488355328) :
    Calls Try.prog 9 #[v] w fun en w' => Upd (fun _ => False) w w' ∧ ∃ b, w.heap.size ≤ b ∧ en = .returned (.slice (some ⟨b, 0, none⟩) ts.length (ts.length + 2)) ∧
      w'.heap[b]? = some (.cells (turnCells (ts ++ [(7, 999), (0, 0)])).toArray 36 (0, 0)) := by
  apply vk9
  unfold vc9
  obtain ⟨a0, c0, hv0⟩ := hv.slice
  have hw1 : IntKind.i64.wrap ((ts.length : Int) + 2) = ((ts.length + 2 : Nat) : Int) := by rw [wrap_i64 (by omega) (by omega)]; rfl
  subst hv0
  simp [hw1, -Int.natCast_add]
  rw [mk24 _ (by omega)]
  -- what the copy leaves
  have hcopy : ∀ (ty : TypeId) (K : Value → World → Prop), (∀ w1, Upd (fun _ => False) w w1 → w1.heap[w.heap.size]? = some (.cells ((ts ++ [(0, 0), (0, 0)]).flatMap trCells ++ []).toArray 36 (0, 0)) → K (goInt ts.length) w1) →
      opK Try.prog (.call ⟨.builtin .copy, #[.const (.slice (some ⟨w.heap.size, 0, none⟩) (ts.length + 2) (ts.length + 2)), .const (.slice a0 ts.length c0)], #[24, 24]⟩) ty
        (w.alloc (.cells (madeCells #[.int .i64 0, .int .i64 0] ((ts.length + 2) * 2)) 36)) K := by
    intro ty K hK
    obtain ⟨i, h1, h2, h3, h4⟩ := turn_info
    have hmade := made_zeros ((ts.length + 2) * 2)
    rcases hv.src with ⟨e0, hl0, hx0⟩ | ⟨ag, cg, e0, hl, hsrc⟩
    · have hts : ts = [] := List.eq_nil_of_length_eq_zero hl0
      subst hts
      simp only [Value.slice.injEq] at e0
      obtain ⟨rfl, _, rfl⟩ := e0
      have hr := run_copy_nil (P := Try.prog) (w.alloc (.cells (madeCells #[.int .i64 0, .int .i64 0] ((0 + 2) * 2)) 36)) 24 24 ty 36 ⟨w.heap.size, 0, none⟩ 2 2 Try.underlying24 (by rw [h1]; rfl)
      have hx : (execOp bare { dst := none, op := .call ⟨.builtin .copy, #[.const (.slice (some ⟨w.heap.size, 0, none⟩) 2 2), .const (.slice none 0 0)], #[24, 24]⟩, type := ty, pos := "", after := #[], guard := none }).run Try.prog
          (w.alloc (.cells (madeCells #[.int .i64 0, .int .i64 0] ((0 + 2) * 2)) 36)) = .ok (.value (goInt 0)) (w.alloc (.cells (madeCells #[.int .i64 0, .int .i64 0] ((0 + 2) * 2)) 36)) := by
        simp only [execOp, resolve, invoke, builtin, Sem.run_bind, Sem.run_pure, Result.andThen_ok, List.map_toArray, List.map_cons, List.map_nil, bare, Act.eval, hr]
      have hK2 := hK (w.alloc (.cells (madeCells #[.int .i64 0, .int .i64 0] ((0 + 2) * 2)) 36)) ((Upd.refl _ w).alloc _) ?_
      · have e := opK_of (K := K) hx rfl
        exact e ▸ hK2
      · rw [alloc_new]
        congr 2
        apply Array.toList_inj.1
        simpa [trCells] using hmade
    · simp only [Value.slice.injEq] at e0
      obtain ⟨rfl, _, rfl⟩ := e0
      have hr := run_copyN (P := Try.prog) (w.alloc (.cells (madeCells #[.int .i64 0, .int .i64 0] ((ts.length + 2) * 2)) 36)) 24 24 ty 36 w.heap.size (ts.length + 2) (ts.length + 2) ag ts.length c0 _ 36 (turnCells ts) i Try.underlying24 h1
        (alloc_new _ _) (by omega) (by rw [h3]; exact hl) (hsrc _ fun g hg => alloc_old hg _)
        (by rw [hl, size_madeCells]; omega) (fun u hu => by
          obtain ⟨e, _, he⟩ := List.mem_flatMap.1 hu
          simp at he
          rcases he with rfl | rfl <;> rfl)
      have hx : (execOp bare { dst := none, op := .call ⟨.builtin .copy, #[.const (.slice (some ⟨w.heap.size, 0, none⟩) (ts.length + 2) (ts.length + 2)), .const (.slice (some ag) ts.length c0)], #[24, 24]⟩, type := ty, pos := "", after := #[], guard := none }).run Try.prog
          (w.alloc (.cells (madeCells #[.int .i64 0, .int .i64 0] ((ts.length + 2) * 2)) 36)) = .ok (.value (goInt ts.length)) (putB (w.alloc (.cells (madeCells #[.int .i64 0, .int .i64 0] ((ts.length + 2) * 2)) 36)) w.heap.size (.cells (writeN (madeCells #[.int .i64 0, .int .i64 0] ((ts.length + 2) * 2)) 0 (turnCells ts)) 36 (0, 0))) := by
        simp only [execOp, resolve, invoke, builtin, Sem.run_bind, Sem.run_pure, Result.andThen_ok, List.map_toArray, List.map_cons, List.map_nil, bare, Act.eval, hr]
      have hK2 := hK (putB (w.alloc (.cells (madeCells #[.int .i64 0, .int .i64 0] ((ts.length + 2) * 2)) 36)) w.heap.size (.cells (writeN (madeCells #[.int .i64 0, .int .i64 0] ((ts.length + 2) * 2)) 0 (turnCells ts)) 36 (0, 0)))
        (((Upd.refl _ w).alloc _).putB (.inl (Nat.le_refl _)) _) ?_
      · have e := opK_of (K := K) hx rfl
        exact e ▸ hK2
      rw [putB_same (by simp)]
      · congr 2
        have hm2 : madeCells #[.int .i64 0, .int .i64 0] ((ts.length + 2) * 2) = (List.replicate ((ts.length + 2) * 2) (.int .i64 0)).toArray := Array.toList_inj.1 (by rw [hmade])
        rw [hm2, writeN_list _ _ _ (by rw [hl]; simp; omega)]
        congr 1
        have hd : (List.replicate ((ts.length + 2) * 2) (Value.int .i64 0)).drop (0 + (turnCells ts).length) = [.int .i64 0, .int .i64 0, .int .i64 0, .int .i64 0] := by
          rw [hl, List.drop_replicate, show (ts.length + 2) * 2 - (0 + ts.length * 2) = 4 by omega]; rfl
        rw [hd]
        simp [turnCells, trCells, List.flatMap_append]
        rfl
  refine hcopy _ _ fun w1 hu1 hb1 => ?_
  have wr := flat_write tr_len (ts ++ [(0, 0), (0, 0)]) [] (i := ts.length) (by simp) (7, 999)
  rw [show (ts ++ [((0 : Int), (0 : Int)), (0, 0)]).set ts.length (7, 999) = ts ++ [(7, 999), (0, 0)] by simp] at wr
  have hsz : ts.length * 2 + 2 ≤ (((ts ++ [((0 : Int), (0 : Int)), (0, 0)]).flatMap trCells ++ []).toArray).size := by
    simp only [List.size_toArray, List.length_append, flat_len tr_len]; simp; omega
  generalize hcs : ((ts ++ [((0 : Int), (0 : Int)), (0, 0)]).flatMap trCells ++ []).toArray = cs at hb1 wr hsz
  have hlt : (ts.length : Int) < ((ts.length + 2 : Nat) : Int) := by omega
  have hle : (ts.length : Int) ≤ ((ts.length + 2 : Nat) : Int) := by omega
  have hpos : (0 : Int) ≤ ts.length := by omega
  rw [bld36, opK_ix_24 _ _ _ _ _ _ hpos hlt]
  simp only [stn_ptr, hb1, blkK_cells, Int.toNat_natCast, Nat.zero_add]
  refine ⟨trivial, rfl, hsz, rfl, ?_⟩
  rw [opK_sl_hi_24 _ _ _ _ _ hpos hle]
  simp only [Int.toNat_natCast]
  refine ⟨hu1.putB (.inl (Nat.le_refl _)) _, w.heap.size, Nat.le_refl _, rfl, ?_⟩
  rw [putB_same (blk_lt hb1)]
  have e : writeN cs (ts.length * 2) (#[Value.int .i64 7, Value.int .i64 999]).toList = ((ts ++ [(7, 999), (0, 0)]).flatMap trCells ++ []).toArray := wr
  rw [e, List.append_nil]
  rfl
end Go.Proofs.Ytaniphdbebdhhaa
