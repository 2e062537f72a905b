/-
  Turns compared; the law's still. No condition.
-/
import Derived.Test.YtaniphdbebdhhaaSm1
import Derived.Laws.StructEq
namespace Go.Proofs.Ytaniphdbebdhhaa
open Go.Vk Vk.Sched

theorem fields36 : ∃ f g, (Try.prog.fieldsOf 36).toList = [f, g] ∧ f.type = 3 ∧ g.type = 3 ∧ f.offset = 0 ∧ g.offset = 1 ∧ f.name ≠ "_" ∧ g.name ≠ "_" := by
  have h : ((Try.prog.fieldsOf 36).toList.map fun f => (f.type, f.offset, f.name)) = [(3, 0, "Domain"), (3, 1, "Ticks")] := by kernel_rfl
  match hl : (Try.prog.fieldsOf 36).toList with
  | [] => rw [hl] at h; simp at h
  | [_] => rw [hl] at h; simp at h
  | [f, g] =>
    rw [hl] at h
    simp at h
    obtain ⟨⟨h1, h2, h3⟩, h4, h5, h6⟩ := h
    exact ⟨f, g, rfl, h1, h4, h2, h5, by rw [h3]; decide, by rw [h6]; decide⟩
  | _ :: _ :: _ :: _ => rw [hl] at h; simp at h

theorem eq36 (a b c d : Int) (w : World) : (Op.equal 36 (.agg #[.int .i64 a, .int .i64 b]) (.agg #[.int .i64 c, .int .i64 d])).run Try.prog w = .ok (a == c && b == d) w := by
  obtain ⟨f, g, hf, h1, h2, h3, h4, h5, h6⟩ := fields36
  have hu : Try.prog.underlying 36 = some (.struct (Try.prog.fieldsOf 36)) := by kernel_rfl
  have hs : Try.prog.stoodInHeld 36 = false := by kernel_rfl
  obtain ⟨k, hk⟩ : ∃ k, Op.maxDepth = k + 2 := ⟨Op.maxDepth - 2, by decide⟩
  unfold Op.equal
  rw [hk, run_equalIn_struct w (k + 1) 36 _ _ hu hs, hf]
  have e3 : ∀ (x y : Int) (w : World), (Op.equalIn (k + 1) 3 (.int .i64 x) (.int .i64 y)).run Try.prog w = .ok (x == y) w := fun x y w => by simp [Op.equalIn, underlying]
  simp [Op.eqFields, h5, h6, h1, h2, h3, h4, part, e3]
  by_cases e1 : a = c
  · by_cases e2 : b = d <;> simp [e1, e2]
  · simp [e1]

theorem guard36 (x y : Operand) (xs ys : Array Value) (w : World) : (eqGuard .eql 36 x y (.agg xs) (.agg ys)).run Try.prog w = .ok () w := by
  have h : Try.prog.eqGuardType Try.prog.depth 36 = false := by kernel_rfl
  simp [eqGuard, h]

theorem run_eq36 (a b c d : Int) (ty : TypeId) (w : World) : (execOp bare { dst := none, op := .binOp .eql 36 (.const (.agg #[.int .i64 a, .int .i64 b])) (.const (.agg #[.int .i64 c, .int .i64 d])) 36, type := ty, pos := "", after := #[], guard := none }).run Try.prog w = .ok (.value (.bool (a == c && b == d))) w := by
  have hb : binOp .eql 36 (.agg #[.int .i64 a, .int .i64 b]) (.agg #[.int .i64 c, .int .i64 d]) = (Op.equal 36 (.agg #[.int .i64 a, .int .i64 b]) (.agg #[.int .i64 c, .int .i64 d]) >>= fun r => Pure.pure (Value.bool r)) := rfl
  simp only [execOp, bare, Act.eval, Sem.run_bind, guard36, Result.andThen_ok, hb, eq36, Sem.run_pure]

theorem opK_eq36 (a b c d : Int) (ty : TypeId) (w : World) (K : Value → World → Prop) :
    opK Try.prog (.binOp .eql 36 (.const (.agg #[.int .i64 a, .int .i64 b])) (.const (.agg #[.int .i64 c, .int .i64 d])) 36) ty w K = K (.bool (a == c && b == d)) w := opK_of (run_eq36 a b c d ty w) rfl
theorem stK_eq36 (a b c d : Int) (ty : TypeId) (w : World) (K : Value → Prop) :
    stK Try.prog (.binOp .eql 36 (.const (.agg #[.int .i64 a, .int .i64 b])) (.const (.agg #[.int .i64 c, .int .i64 d])) 36) ty w K = K (.bool (a == c && b == d)) := stK_of (run_eq36 a b c d ty w) rfl

/-- How a round of still finds things: those before k are written over. -/
def StillI (w : World) (b : Nat) (ts : List (Int × Int)) (m : Nat) (v u : Value) (w' : World) : Prop :=
  ∃ k : Nat, k ≤ ts.length ∧ v = .bool true ∧ u = .int .i64 k ∧ m = ts.length - k ∧ Upd (fun c => c = b) w w' ∧
    w'.heap[b]? = some (.cells (((List.replicate k ((7 : Int), (1 : Int)) ++ ts.drop k) ++ [(7, 999), (0, 0)]).flatMap trCells ++ []).toArray 36 (0, 0))

set_option maxRecDepth 100000 in
theorem still_calls {w : World} {b : Nat} {v : Value} {ts : List (Int × Int)} (hb : w.heap[b]? = some (.cells (turnCells (ts ++ [(7, 999), (0, 0)])).toArray 36 (0, 0)))
    (hv : RowAt w 2 v ts.length (turnCells ts)) (hne : ts.length = 0 ∨ v.ownBlock ≠ some b) (hbig : (ts.length + 2) * 16 ≤ 140737488355328) :
    Calls Try.prog 12 #[.slice (some ⟨b, 0, none⟩) ts.length (ts.length + 2), v] w fun en w' => en = .returned (.bool true) ∧ Upd (fun c => c = b) w w' := by
  apply vk12
  unfold vc12
  obtain ⟨a0, c0, hv0⟩ := hv.slice
  have hw1 : IntKind.i64.wrap ((ts.length : Int) + 1) = ((ts.length + 1 : Nat) : Int) := by rw [wrap_i64 (by omega) (by omega)]; rfl
  have hb0 : w.heap[b]? = some (.cells ((ts ++ [(7, 999), (0, 0)]).flatMap trCells ++ []).toArray 36 (0, 0)) := by rw [hb, List.append_nil]; rfl
  have rd := flat_read tr_len (ts ++ [(7, 999), (0, 0)]) [] ts.length (by simp)
  rw [show (ts ++ [((7 : Int), (999 : Int)), (0, 0)])[ts.length] = (7, 999) by simp] at rd
  have hle : ((ts.length + 1 : Nat) : Int) ≤ ((ts.length + 2 : Nat) : Int) := by omega
  have hpos : (0 : Int) ≤ ((ts.length + 1 : Nat) : Int) := by omega
  have hlt : (ts.length : Int) < ((ts.length + 1 : Nat) : Int) := by omega
  have hpos2 : (0 : Int) ≤ ts.length := by omega
  subst hv0
  simp [hw1, -Int.natCast_add]
  simp only [hb0, blkK_cells, rd, valsK_some, bld36]
  rw [show (trCells (7, 999)).toArray = #[.int .i64 7, .int .i64 999] from rfl, opK_eq36]
  simp only [BEq.rfl, Bool.and_self]
  refine loopK2 (StillI w b ts) ts.length ⟨0, by omega, rfl, rfl, by omega, Upd.refl _ _, by simpa using hb0⟩ ?_
  rintro m v' u w' ⟨k, hk, rfl, rfl, rfl, hu, hb'⟩
  by_cases hlt3 : k < ts.length
  · rcases hv with ⟨_, h0, _⟩ | ⟨g, o, cap, cs0, T0, fr0, e1, hg, _, hcs0⟩
    · omega
    simp only [Value.slice.injEq] at e1
    obtain ⟨rfl, _, rfl⟩ := e1
    have hgb : g ≠ b := fun e => (hne.resolve_left (by omega)) (by rw [e]; rfl)
    have hg' := (hu.old g (blk_lt hg) hgb).trans hg
    have hlen : (List.replicate k ((7 : Int), (1 : Int)) ++ ts.drop k ++ [(7, 999), (0, 0)]).length = ts.length + 2 := by simp; omega
    have hkl : k < (List.replicate k ((7 : Int), (1 : Int)) ++ ts.drop k ++ [(7, 999), (0, 0)]).length := by omega
    have hLk : (List.replicate k ((7 : Int), (1 : Int)) ++ ts.drop k ++ [(7, 999), (0, 0)])[k] = ts[k] := by
      rw [List.getElem_append_left (by simp; omega), List.getElem_append_right (by simp)]
      simp
    have hset : (List.replicate k ((7 : Int), (1 : Int)) ++ ts.drop k ++ [(7, 999), (0, 0)]).set k (7, 1) = List.replicate (k + 1) ((7 : Int), (1 : Int)) ++ ts.drop (k + 1) ++ [(7, 999), (0, 0)] := by
      rw [List.set_append_left _ _ (by simp; omega), List.set_append_right _ _ (by simp), List.drop_eq_getElem_cons hlt3]
      rw [List.length_replicate, Nat.sub_self, List.set_cons_zero, List.replicate_succ']
      simp only [List.append_assoc, List.cons_append, List.nil_append]
    have rd2 := flat_read tr_len _ [] k hkl
    rw [hLk] at rd2
    have rd3 := turn_readA hcs0 hlt3
    have wr := flat_write tr_len _ [] k hkl (7, 1)
    rw [hset] at wr
    have hsz : k * 2 + 2 ≤ (((List.replicate k ((7 : Int), (1 : Int)) ++ ts.drop k ++ [(7, 999), (0, 0)]).flatMap trCells ++ []).toArray).size := by
      rw [List.append_nil]
      simp only [List.size_toArray, flat_len tr_len, hlen]
      omega
    generalize ((List.replicate k ((7 : Int), (1 : Int)) ++ ts.drop k ++ [(7, 999), (0, 0)]).flatMap trCells ++ []).toArray = cs at hb' rd2 wr hsz
    have hwr : IntKind.i64.wrap ((k : Int) + 1) = ((k + 1 : Nat) : Int) := by rw [wrap_i64 (by omega) (by omega)]; rfl
    have ht : trCells ts[k] = [.int .i64 ts[k].1, .int .i64 ts[k].2] := rfl
    have ht7 : trCells (7, 1) = [.int .i64 7, .int .i64 1] := rfl
    rw [ht] at rd2
    rw [ht7] at wr
    simp [hlt3, hb', hg', rd2, rd3, stK_eq36, hwr, wr, -Int.natCast_add]
    refine ⟨hsz, _, ?_, k + 1, by omega, rfl, rfl, rfl, hu.drew.putB (.inr rfl) _, ?_⟩
    · omega
    · rw [putB_same (w := w'.drew) (blk_lt hb')]; simp
  · have : k = ts.length := by omega
    subst this
    simp
    exact hu
end Go.Proofs.Ytaniphdbebdhhaa
