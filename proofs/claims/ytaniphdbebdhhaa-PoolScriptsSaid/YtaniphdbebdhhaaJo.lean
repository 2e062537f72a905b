/-
  Steps that come in: a slice of them read as a row. No condition.
-/
import Derived.Test.YtaniphdbebdhhaaLa
import Derived.Deep.Slices
import Derived.SizedLaws
import Derived.RangeFuncOwn
namespace Go.Proofs.Ytaniphdbebdhhaa.Pool
open Go.Vk Vk.Pool Go.ChangeShapes Go.WideShapes

/-- A row that somebody else may own: what its cells are, wherever it lies. -/
def RowAt (w : World) (z : Nat) (v : Value) (n : Nat) (xs : List Value) : Prop :=
  ((v = .slice none 0 0 ∨ ∃ a c, v = .slice (some a) 0 c) ∧ n = 0 ∧ xs = []) ∨ ∃ g o cap cs T fr, v = .slice (some ⟨g, o, none⟩) n cap ∧ w.heap[g]? = some (.cells cs T fr) ∧ xs.length = n * z ∧ ∀ j u, xs[j]? = some u → cs[o + j]? = some u

theorem RowAt.slice {w : World} {z n : Nat} {v : Value} {xs : List Value} (h : RowAt w z v n xs) : ∃ a c, v = .slice a n c := by
  rcases h with ⟨rfl | ⟨a, c, rfl⟩, rfl, _⟩ | ⟨g, o, cap, cs, T, fr, rfl, _⟩
  · exact ⟨_, _, rfl⟩
  · exact ⟨_, _, rfl⟩
  · exact ⟨_, _, rfl⟩
/-- A step: its numbers are Go's ints. -/
structure OpR where
  kd : Int
  a : Int
  b : Int
  c : Int
  d : Int
  s : ByteArray
  ra : R64 a
  rb : R64 b
def opCells (o : OpR) : List Value := [.int .i64 o.kd, .int .i64 o.a, .int .i64 o.b, .int .i64 o.c, .int .i64 o.d, .string o.s]
theorem op_len (o : OpR) : (opCells o).length = 6 := rfl
theorem op_readA {os : List OpR} {cs : Array Value} {o : Nat} (h : ∀ j u, (os.flatMap opCells)[j]? = some u → cs[o + j]? = some u) {k : Nat} (hk : k < os.length) :
    readN cs (o + k * 6) 6 = some (opCells os[k]) := by
  have hf := flat_read op_len os [] k hk
  rw [List.append_nil] at hf
  have key : ∀ (n i : Nat) (vs : List Value), readN (os.flatMap opCells).toArray i n = some vs → readN cs (o + i) n = some vs := by
    intro n
    induction n with
    | zero => intro i vs hv; exact hv
    | succ n ih =>
      intro i vs hv
      simp only [readN] at hv ⊢
      split at hv
      case h_2 => cases hv
      rename_i v hv1
      split at hv
      case h_2 => cases hv
      rename_i vs' hv2
      rw [h i v (by simpa using hv1)]
      simp only
      rw [show o + i + 1 = o + (i + 1) by omega, ih (i + 1) vs' hv2]
      exact hv
  exact key 6 (k * 6) _ hf

theorem flat_cells {α : Type} {z : Nat} {f : α → List Value} (fl : ∀ a, (f a).length = z) {cell : Nat → Option Value} : ∀ (os : List α) (k : Nat), (∀ i (hi : i < os.length) q, q < z → cell ((k + i) * z + q) = (f os[i])[q]?) →
    ∀ j u, (os.flatMap f)[j]? = some u → cell (k * z + j) = some u
  | [], k, _, j, u, hu => by simp at hu
  | a :: os, k, h, j, u, hu => by
    rw [List.flatMap_cons] at hu
    rcases Nat.lt_or_ge j z with hj | hj
    · rw [List.getElem?_append_left (by rw [fl]; exact hj)] at hu
      have := h 0 (by simp) j hj
      rw [Nat.add_zero] at this
      rw [this]
      exact hu
    · rw [List.getElem?_append_right (by rw [fl]; exact hj), fl] at hu
      have := flat_cells fl os (k + 1) (fun i hi q hq => by
        have := h (i + 1) (by simp; omega) q hq
        rw [show k + 1 + i = k + (i + 1) by omega]
        simpa using this) (j - z) u hu
      rw [show k * z + j = (k + 1) * z + (j - z) by rw [Nat.add_mul]; omega]
      exact this

section
variable {H : Type} {enc : TypeId × Value → H} {w : World}

theorem rowAt_of_trod {α : Type} [Inhabited α] {z : Nat} {t e : TypeId} {f : α → List Value} (ht : Try.prog.underlying t = some (.slice e)) (hc : Try.prog.cellsOf e = z) (hz : 0 < z) (fl : ∀ a, (f a).length = z)
    (hop : ∀ n cs d, DataW.trod enc Try.prog w 0 (fun _ => true) true n e cs = some d → ∃ a, cs = f a) {v : Value} {d : DataW H} {ps : List MemPlace} {fuel : Nat} {a0 : Option Addr} {len cap : Nat} (hv : v = .slice a0 len cap)
    (h : DataW.trod enc Try.prog w 0 (fun _ => true) true fuel t v.cells.toList = some (d, ps)) :
    ∃ os : List α, RowAt w z v os.length (os.flatMap f) ∧ (os.length = 0 ∨ ∃ elems spare, d = .slice elems spare ∧ elems.length = os.length) := by
  subst hv
  rcases Go.Deep.open_slice ht h with ⟨hcs, _⟩ | ⟨a, len', cap', m, n, D, Pl, hcs, _, hl, _, hm, hx, hel⟩
  · simp [Value.cells] at hcs
    obtain ⟨rfl, rfl, rfl⟩ := hcs
    exact ⟨[], .inl ⟨.inl rfl, rfl, rfl⟩, .inl rfl⟩
  · simp [Value.cells] at hcs
    obtain ⟨rfl, rfl, rfl⟩ := hcs
    simp only [if_true] at hm
    rw [hm] at hx hel
    simp only [Prod.mk.injEq] at hx
    obtain ⟨A, hA⟩ := Go.Deep.choose_lt (α := α) (n := cap) (p := fun i x => ∀ q, q < z → w.cell? (a.add (i * z + q)) = (f x)[q]?) fun i hi => by
      obtain ⟨cs', h1, h2⟩ := hel i hi
      obtain ⟨x, rfl⟩ := hop _ _ _ h2
      rw [hc] at h1
      obtain ⟨_, _, h3⟩ := World.cells?_some h1
      refine ⟨x, fun q hq => ?_⟩
      rw [← h3 q hq, Go.Deep.add_add]
    refine ⟨(List.range len).map A, ?_, .inr ⟨_, _, hx.1, by simp⟩⟩
    rw [List.length_map, List.length_range]
    by_cases h0 : len = 0
    · subst h0
      exact .inl ⟨.inr ⟨a, cap, rfl⟩, rfl, rfl⟩
    · have hc0 := hA 0 (by omega) 0 hz
      have hl0 : ∃ u, (f (A 0))[0]? = some u := ⟨(f (A 0))[0]'(by rw [fl]; exact hz), by simp [fl, hz]⟩
      obtain ⟨u0, hu0⟩ := hl0
      rw [hu0] at hc0
      obtain ⟨b, off, spot⟩ := a
      have hspot : spot = none := by simpa [Addr.add] using World.cell?_spot hc0
      subst hspot
      obtain ⟨o, hob, hoc⟩ := cells_of_cell hc0
      rw [add_off] at hob
      cases o with
      | cells cs T fr =>
        refine .inr ⟨b, off, cap, cs, T, fr, rfl, hob, ?_, ?_⟩
        · rw [flat_len fl]
          simp
        · intro j u hu
          have := flat_cells fl (cell := fun j => cs[off + j]?) ((List.range len).map A) 0 (fun i hi q hq => by
            have hi' : i < len := by simpa using hi
            have h4 := hA i (by omega) q hq
            rw [add_off, cell_of_blk hob] at h4
            rw [Nat.zero_add]
            simpa using h4) j u hu
          simpa using this
      | _ => simp [Obj.isCells] at hoc

theorem cellsOp : Try.prog.cellsOf 50 = 6 := by kernel_rfl
theorem cells3 : Try.prog.cellsOf 3 = 1 := by kernel_rfl
theorem cells9 : Try.prog.cellsOf 9 = 1 := by kernel_rfl
theorem bytesOp : Try.prog.bytesOf 50 = 56 := by kernel_rfl
theorem r64_wf {n : Int} (h : (Lit.int .i64 n).wf = true) : R64 n := by
  simp [Lit.wf, IntKind.min, IntKind.max, IntKind.signed, IntKind.bits] at h
  exact ⟨by omega, by omega⟩

set_option maxRecDepth 100000 in
theorem open50 (n : Nat) (cs : List Value) (d : DataW H × List MemPlace) (h : DataW.trod enc Try.prog w 0 (fun _ => true) true n 50 cs = some d) : ∃ o : OpR, cs = opCells o := by
  obtain ⟨xs, k, _, _, hl, hxl, hx⟩ := DataW.trod_struct Try.underlying50 h
  rw [cellsOp] at hl
  match cs, hl with
  | [u0, u1, u2, u3, u4, u5], _ =>
    have some_of : ∀ i, i < 6 → ∃ x, xs[i]? = some x := fun i hi => ⟨xs[i]'(by rw [hxl]; exact hi), by rw [List.getElem?_eq_getElem]⟩
    have h0 : DataW.trod enc Try.prog w 0 (fun _ => true) true k 3 (([u0, u1, u2, u3, u4, u5].drop 0).take (Try.prog.cellsOf 3)) = xs[0]? := hx 0 _ rfl
    rw [cells3] at h0
    have h1 : DataW.trod enc Try.prog w 0 (fun _ => true) true k 3 (([u0, u1, u2, u3, u4, u5].drop 1).take (Try.prog.cellsOf 3)) = xs[1]? := hx 1 _ rfl
    rw [cells3] at h1
    have h2 : DataW.trod enc Try.prog w 0 (fun _ => true) true k 3 (([u0, u1, u2, u3, u4, u5].drop 2).take (Try.prog.cellsOf 3)) = xs[2]? := hx 2 _ rfl
    rw [cells3] at h2
    have h3 : DataW.trod enc Try.prog w 0 (fun _ => true) true k 3 (([u0, u1, u2, u3, u4, u5].drop 3).take (Try.prog.cellsOf 3)) = xs[3]? := hx 3 _ rfl
    rw [cells3] at h3
    have h4 : DataW.trod enc Try.prog w 0 (fun _ => true) true k 3 (([u0, u1, u2, u3, u4, u5].drop 4).take (Try.prog.cellsOf 3)) = xs[4]? := hx 4 _ rfl
    rw [cells3] at h4
    have h5 : DataW.trod enc Try.prog w 0 (fun _ => true) true k 9 (([u0, u1, u2, u3, u4, u5].drop 5).take (Try.prog.cellsOf 9)) = xs[5]? := hx 5 _ rfl
    rw [cells9] at h5
    obtain ⟨x0, e0⟩ := some_of 0 (by omega)
    obtain ⟨x1, e1⟩ := some_of 1 (by omega)
    obtain ⟨x2, e2⟩ := some_of 2 (by omega)
    obtain ⟨x3, e3⟩ := some_of 3 (by omega)
    obtain ⟨x4, e4⟩ := some_of 4 (by omega)
    obtain ⟨x5, e5⟩ := some_of 5 (by omega)
    rw [e0] at h0
    rw [e1] at h1
    rw [e2] at h2
    rw [e3] at h3
    rw [e4] at h4
    rw [e5] at h5
    obtain ⟨a0, ha0, _, hr0⟩ := DataW.trod_int Try.underlying3 h0
    obtain ⟨a1, ha1, _, hr1⟩ := DataW.trod_int Try.underlying3 h1
    obtain ⟨a2, ha2, _, hr2⟩ := DataW.trod_int Try.underlying3 h2
    obtain ⟨a3, ha3, _, hr3⟩ := DataW.trod_int Try.underlying3 h3
    obtain ⟨a4, ha4, _, hr4⟩ := DataW.trod_int Try.underlying3 h4
    obtain ⟨a5, ha5, _⟩ := DataW.trod_string Try.underlying9 h5
    simp at ha0 ha1 ha2 ha3 ha4 ha5
    exact ⟨⟨a0, a1, a2, a3, a4, a5, r64_wf hr1, r64_wf hr2⟩, by rw [ha0, ha1, ha2, ha3, ha4, ha5]; rfl⟩

end
instance : Inhabited OpR := ⟨⟨0, 0, 0, 0, 0, ⟨#[]⟩, ⟨by decide, by decide⟩, ⟨by decide, by decide⟩⟩⟩
end Go.Proofs.Ytaniphdbebdhhaa.Pool
