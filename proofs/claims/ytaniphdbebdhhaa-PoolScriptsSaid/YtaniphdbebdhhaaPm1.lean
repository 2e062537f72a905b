/-
  Pages and untypeds: the program's pool in memory, its small functions. No condition beyond what each theorem names.
-/
import Derived.Test.YtaniphdbebdhhaaPl
import Derived.Test.YtaniphdbebdhhaaVkSep
import Derived.Test.YtaniphdbebdhhaaVkIn
import Derived.Test.YtaniphdbebdhhaaVcP
import Derived.LaidEqlPtr
import Derived.Laws.MakeOwn
import Derived.Laws.StructEq
namespace Go.Proofs.Ytaniphdbebdhhaa.Pool
open Go.Vk Vk.Pool

def obCells (o : Ob) : List Value := [.int .i64 o.kind, .int .i64 o.num]
def obV (o : Ob) : Value := .agg (obCells o).toArray
def rgCells (g : Rg) : List Value := [.int .i64 g.num, .int .i64 g.mark]
theorem ob_len (o : Ob) : (obCells o).length = 2 := rfl
theorem rg_len (g : Rg) : (rgCells g).length = 2 := rfl
theorem obV_eq (o : Ob) : obV o = .agg #[.int .i64 o.kind, .int .i64 o.num] := rfl
def pgCells (R : RP) : List Value := ((List.range R.n.toNat).map fun (i : Nat) => R.at i).flatMap obCells
def regO (t m : Int) : Obj := .cells #[.int .i64 (base t), .int .i64 (t / 256), .int .i64 m] 154 (0, 0)

/-! ### Operations -/
section
variable (ty : TypeId) (w : World) (K : Value → World → Prop) (K' : Value → Prop)
theorem b84 (k n : Int) : opK Try.prog (.build 84 #[(0, .const (.int .i64 k)), (1, .const (.int .i64 n))]) ty w K = K (obV ⟨k, n⟩) w := opK_of (by kernel_rfl) rfl
theorem b84n (n : Int) : opK Try.prog (.build 84 #[(1, .const (.int .i64 n))]) ty w K = K (obV ⟨0, n⟩) w := opK_of (by kernel_rfl) rfl
theorem b84z : opK Try.prog (.build 84 #[]) ty w K = K (obV ⟨0, 0⟩) w := opK_of (by kernel_rfl) rfl
theorem sb84z : stK Try.prog (.build 84 #[]) ty w K' = K' (obV ⟨0, 0⟩) := stK_of (by kernel_rfl) rfl
theorem sb154 (b o : Int) : stK Try.prog (.build 154 #[(0, .const (.int .i64 b)), (1, .const (.int .i64 o))]) ty w K' = K' (.agg #[.int .i64 b, .int .i64 o, .int .i64 0]) := stK_of (by kernel_rfl) rfl
theorem sb204 (n : Int) : stK Try.prog (.build 204 #[(0, .const (.int .i64 n))]) ty w K' = K' (.agg #[.int .i64 n, .int .i64 0]) := stK_of (by kernel_rfl) rfl
theorem bs146 (o : Ob) : opK Try.prog (.buildSlice 146 1 #[(0, .const (obV o))]) ty w K = K (.slice (some ⟨w.heap.size, 0, none⟩) 1 1) (w.alloc (.cells (obCells o).toArray 84)) := opK_of (by kernel_rfl) rfl
theorem bs149 (n m : Int) : opK Try.prog (.buildSlice 149 1 #[(0, .const (.agg #[.int .i64 n, .int .i64 m]))]) ty w K = K (.slice (some ⟨w.heap.size, 0, none⟩) 1 1) (w.alloc (.cells (rgCells ⟨n, m⟩).toArray 204)) := opK_of (by kernel_rfl) rfl
theorem bs69' (x : Int) : opK Try.prog (.buildSlice 69 1 #[(0, .const (.int .i64 x))]) ty w K = K (.slice (some ⟨w.heap.size, 0, none⟩) 1 1) (w.alloc (.cells #[.int .i64 x] 3)) := opK_of (by kernel_rfl) rfl
theorem shl_run (k : Int) (h0 : 0 ≤ k) (h8 : k ≤ 8) : (execOp bare { dst := none, op := .binOp .shl 3 (.const (.int .i64 1)) (.const (.int .i64 k)) 3, type := ty, pos := "", after := #[], guard := none }).run Try.prog w = .ok (.value (.int .i64 (2 ^ k.toNat))) w := by
  rcases (by omega : k = 0 ∨ k = 1 ∨ k = 2 ∨ k = 3 ∨ k = 4 ∨ k = 5 ∨ k = 6 ∨ k = 7 ∨ k = 8) with h | h | h | h | h | h | h | h | h <;> subst h <;> kernel_rfl
theorem opK_shl (k : Int) (h0 : 0 ≤ k) (h8 : k ≤ 8) : opK Try.prog (.binOp .shl 3 (.const (.int .i64 1)) (.const (.int .i64 k)) 3) ty w K = K (.int .i64 (2 ^ k.toNat)) w := opK_of (shl_run ty w k h0 h8) rfl
theorem stK_shl (k : Int) (h0 : 0 ≤ k) (h8 : k ≤ 8) : stK Try.prog (.binOp .shl 3 (.const (.int .i64 1)) (.const (.int .i64 k)) 3) ty w K' = K' (.int .i64 (2 ^ k.toNat)) := stK_of (shl_run ty w k h0 h8) rfl
end
theorem wr {x : Int} (h1 : -9223372036854775808 ≤ x) (h2 : x ≤ 9223372036854775807) : IntKind.i64.wrap x = x := wrap_i64 h1 h2
theorem pow8 {k : Int} (h0 : 0 ≤ k) (h8 : k ≤ 8) : (1 : Int) ≤ 2 ^ k.toNat ∧ (2 : Int) ^ k.toNat ≤ 256 := by
  rcases (by omega : k = 0 ∨ k = 1 ∨ k = 2 ∨ k = 3 ∨ k = 4 ∨ k = 5 ∨ k = 6 ∨ k = 7 ∨ k = 8) with h | h | h | h | h | h | h | h | h <;> subst h <;> decide
theorem size8 {n t : Int} (h : okReg n t) : 1 ≤ size t ∧ size t ≤ 256 := pow8 (by have := h.1; omega) h.2.1

theorem under145 : Try.prog.underlying 145 = some (.map 3 152) := by kernel_rfl
theorem under152 : Try.prog.underlying 152 = some (.pointer 154) := by kernel_rfl
theorem zero152 (w : World) : (zeroValue 152).run Try.prog w = .ok (.pointer none) w := by kernel_rfl
section
variable {w : World} {m : Nat} {l : List Ent3} {c : Nat}
theorem look145 (h : w.heap[m]? = some (.map (ents l) c)) (t : Int) (ty : TypeId) (K : Value → World → Prop) : opK Try.prog (.lookup 145 (.const (.map (some m))) (.const (.int .i64 t)) false) ty w K = K ((mget l t).getD (.pointer none)) w :=
  opK_of (run_lookup under145 Try.underlying3 zero152 h t ty) rfl
theorem slook145 (h : w.heap[m]? = some (.map (ents l) c)) (t : Int) (ty : TypeId) (K : Value → Prop) : stK Try.prog (.lookup 145 (.const (.map (some m))) (.const (.int .i64 t)) false) ty w K = K ((mget l t).getD (.pointer none)) :=
  stK_of (run_lookup under145 Try.underlying3 zero152 h t ty) rfl
theorem upd145 (h : w.heap[m]? = some (.map (ents l) c)) (t : Int) (v : Value) (ty : TypeId) (K : Value → World → Prop) : opK Try.prog (.mapUpdate 145 (.const (.map (some m))) (.const (.int .i64 t)) (.const v)) ty w K = K undef (putB w m (.map (ents (mput l c t v)) (mclk l c t))) :=
  opK_skip (run_mapUpdate under145 Try.underlying3 h t v ty) rfl
theorem del145 (h : w.heap[m]? = some (.map (ents l) c)) (t : Int) (T2 ty : TypeId) (K : Value → World → Prop) : opK Try.prog (.call ⟨.builtin .delete, #[.const (.map (some m)), .const (.int .i64 t)], #[145, T2]⟩) ty w K = K (.tuple #[]) (putB w m (.map (ents (mdel t l)) c)) :=
  opK_of (run_delete under145 Try.underlying3 h t T2 ty) rfl
end

theorem eq_ptr {w : World} {a b : Nat} {ca cb : Array Value} {ta tb : TypeId} (ha : w.heap[a]? = some (.cells ca ta (0, 0))) (hb : w.heap[b]? = some (.cells cb tb (0, 0))) (d : Nat) :
    (Op.equalIn (d + 1) 152 (.pointer (some ⟨a, 0, none⟩)) (.pointer (some ⟨b, 0, none⟩))).run Try.prog w = .ok (decide (a = b)) w := by
  have hs : ∀ w, (sizeOf 154).run Try.prog w = .ok 3 w := fun w => by kernel_rfl
  by_cases e : a = b
  · subst e
    simp [Op.equalIn, underlying, hs, run_sameAddr_same]
  · have hne : (⟨a, 0, none⟩ : Addr) ≠ ⟨b, 0, none⟩ := fun h => e (by cases h; rfl)
    simp [Op.equalIn, underlying, hs, run_sameAddr_other w hne ha hb, e]
theorem stK_neq152 {w : World} {a b : Nat} {ca cb : Array Value} {ta tb : TypeId} (ha : w.heap[a]? = some (.cells ca ta (0, 0))) (hb : w.heap[b]? = some (.cells cb tb (0, 0))) (u ty : TypeId) (K : Value → Prop) :
    stK Try.prog (.binOp .neq 152 (.const (.pointer (some ⟨a, 0, none⟩))) (.const (.pointer (some ⟨b, 0, none⟩))) u) ty w K = K (.bool (!decide (a = b))) :=
  stK_of (bin_neq rfl rfl (eq_ptr ha hb 9999)) rfl

/-! ### The pool in memory -/
structure PoolAt (G : Nat → Prop) (w : World) (x : Nat) (R : RP) (m pg : Nat) (l : List Ent3) (c : Nat) (rb : Int → Nat) : Prop where
  head : w.heap[x]? = some (.cells #[.map (some m), .slice (some ⟨pg, 0, none⟩) R.n.toNat R.n.toNat] 148 (0, 0))
  page : w.heap[pg]? = some (.cells (pgCells R).toArray 84 (0, 0))
  map : w.heap[m]? = some (.map (ents l) c)
  nd : (mkeys l).Nodup
  tidy : Tidy l c
  key : ∀ t, mget l t = (R.reg t).map fun _ => .pointer (some ⟨rb t, 0, none⟩)
  reg : ∀ t g, R.reg t = some g → w.heap[rb t]? = some (regO t g.mark)
  inj : ∀ t u, (R.reg t).isSome → (R.reg u).isSome → rb t = rb u → t = u
  inv : Inv R
  o_head : G x
  o_page : G pg
  o_map : G m
  o_reg : ∀ t, (R.reg t).isSome → G (rb t)
  lt : ∀ b, G b → b < w.heap.size
def PoolH (x : Nat) (R : RP) : HP := fun G w => ∃ m pg l c rb, PoolAt G w x R m pg l c rb

section
variable {G : Nat → Prop} {w w' : World} {x : Nat} {R : RP} {m pg : Nat} {l : List Ent3} {c : Nat} {rb : Int → Nat}
theorem PoolAt.frame (h : PoolAt G w x R m pg l c rb) (hf : ∀ b, G b → w'.heap[b]? = w.heap[b]?) (hs : w.heap.size ≤ w'.heap.size) : PoolAt G w' x R m pg l c rb :=
  ⟨(hf x h.o_head).trans h.head, (hf pg h.o_page).trans h.page, (hf m h.o_map).trans h.map, h.nd, h.tidy, h.key, fun t g hg => (hf _ (h.o_reg t (by rw [hg]; rfl))).trans (h.reg t g hg), h.inj, h.inv,
    h.o_head, h.o_page, h.o_map, h.o_reg, fun b hb => Nat.lt_of_lt_of_le (h.lt b hb) hs⟩
instance : Solid (PoolH x R) where
  frame := fun ⟨m, pg, l, c, rb, h⟩ hf hs => ⟨m, pg, l, c, rb, h.frame hf hs⟩
  lt := fun ⟨_, _, _, _, _, h⟩ hb => h.lt _ hb
theorem PoolAt.same (h : PoolAt G w x R m pg l c rb) (hu : Upd (fun _ => False) w w') : PoolAt G w' x R m pg l c rb := h.frame (fun b hb => hu.old b (h.lt b hb) fun f => f) hu.size
theorem PoolAt.reg_x (h : PoolAt G w x R m pg l c rb) {t : Int} (ht : (R.reg t).isSome) : rb t ≠ x ∧ rb t ≠ pg ∧ rb t ≠ m := by
  obtain ⟨g, hg⟩ := Option.isSome_iff_exists.1 ht
  have hr := h.reg t g hg
  refine ⟨fun e => ?_, fun e => ?_, fun e => ?_⟩
  · rw [e, h.head] at hr; simp [regO] at hr
  · rw [e, h.page] at hr; simp [regO] at hr
  · rw [e, h.map] at hr; simp [regO] at hr
theorem PoolAt.apart (h : PoolAt G w x R m pg l c rb) : x ≠ pg ∧ x ≠ m ∧ pg ≠ m := by
  refine ⟨fun e => ?_, fun e => ?_, fun e => ?_⟩
  · have := h.head; rw [e, h.page] at this; simp at this
  · have := h.head; rw [e, h.map] at this; simp at this
  · have := h.page; rw [e, h.map] at this; simp at this
theorem PoolAt.n (h : PoolAt G w x R m pg l c rb) : ((R.n.toNat : Nat) : Int) = R.n ∧ 1 ≤ R.n.toNat ∧ R.n.toNat ≤ 256 := by
  have h1 := h.inv.n1
  have h2 := h.inv.n2
  omega
theorem pg_len (R : RP) : ((List.range R.n.toNat).map fun (i : Nat) => R.at i).length = R.n.toNat := by simp
theorem pg_size (R : RP) : (pgCells R).length = R.n.toNat * 2 := by unfold pgCells; rw [flat_len ob_len, pg_len]
/-- A page's cells. -/
theorem PoolAt.cell (_ : PoolAt G w x R m pg l c rb) {i : Nat} (hi : i < R.n.toNat) : readN (pgCells R).toArray (i * 2) 2 = some (obCells (R.at i)) := by
  have := flat_read ob_len ((List.range R.n.toNat).map fun (i : Nat) => R.at i) [] i (by simpa using hi)
  rw [List.append_nil] at this
  simpa [pgCells] using this
theorem PoolAt.look0 (h : PoolAt G w x R m pg l c rb) {t : Int} (e : R.reg t = none) : (mget l t).getD (.pointer none) = .pointer none := by rw [h.key, e]; rfl
theorem PoolAt.look1 (h : PoolAt G w x R m pg l c rb) {t : Int} {g : Rg} (e : R.reg t = some g) : (mget l t).getD (.pointer none) = .pointer (some ⟨rb t, 0, none⟩) := by rw [h.key, e]; rfl
/-- An entry of the map. -/
theorem PoolAt.entry (h : PoolAt G w x R m pg l c rb) {p : Ent3} (hp : p ∈ l) : ∃ g, R.reg p.1 = some g ∧ p.2.1 = .pointer (some ⟨rb p.1, 0, none⟩) := by
  have hk := h.key p.1
  have hg : mget l p.1 = some p.2.1 := by
    have := find_nodup (f := fun p : Ent3 => p.1) h.nd hp
    unfold mget; rw [this]; rfl
  rw [hg] at hk
  cases hr : R.reg p.1 with
  | none => rw [hr] at hk; cases hk
  | some g => rw [hr] at hk; simp at hk; exact ⟨g, rfl, hk⟩
theorem PoolAt.entry_of (h : PoolAt G w x R m pg l c rb) {g : Rg} (hg : g ∈ R.G) : ∃ p ∈ l, p.1 = g.num := by
  have hk := h.key g.num
  rw [RP.reg_of h.inv hg] at hk
  unfold mget at hk
  cases hf : l.find? (fun p => p.1 == g.num) with
  | none => rw [hf] at hk; cases hk
  | some p => exact ⟨p, List.mem_of_find?_eq_some hf, by have := List.find?_some hf; simpa using this⟩
end
theorem reg_num {R : RP} {t : Int} {g : Rg} (h : R.reg t = some g) : g.num = t := (RP.reg_mem h).2
theorem one (w : World) (o : Obj) : ∃ W, w.alloc o = W ∧ Upd (fun _ => False) w W ∧ W.heap[w.heap.size]? = some o ∧ W.heap.size = w.heap.size + 1 :=
  ⟨_, rfl, (Upd.refl _ w).alloc o, alloc_new w o, by simp⟩

/-! ### Split, within -/
theorem split_calls (n : Int) (h : -9223372036854775808 ≤ n) (h2 : n ≤ 9223372036854775807) (w : World) : Calls Try.prog 76 #[.int .i64 n] w fun en w' => en = .returned (.tuple #[.int .i64 (n.tmod 256), .int .i64 (n.tdiv 256)]) ∧ w' = w := by
  apply vk76
  have : IntKind.i64.wrap (n.tdiv 256) = n.tdiv 256 := by
    rcases Int.le_total 0 n with h0 | h0
    · rw [Int.tdiv_eq_ediv_of_nonneg h0]; exact wr (by omega) (by omega)
    · have e : n.tdiv 256 = -((-n) / 256) := by
        have := Int.neg_tdiv (-n) 256
        rw [Int.neg_neg] at this
        rw [this, Int.tdiv_eq_ediv_of_nonneg (by omega)]
      rw [e]; exact wr (by omega) (by omega)
  simp [vc76, this]

theorem within_calls {w : World} {a b : Nat} {t u mt mu n : Int} (ha : w.heap[a]? = some (regO t mt)) (hb : w.heap[b]? = some (regO u mu)) (ht : okReg n t) :
    Calls Try.prog 119 #[.pointer (some ⟨a, 0, none⟩), .pointer (some ⟨b, 0, none⟩)] w fun en w' =>
      en = .returned (.bool (!decide (b = a) && decide (u / 256 < t / 256) && decide (base u ≥ base t) && decide (base u < base t + size t))) ∧ Upd (fun _ => False) w w' := by
  apply vk119
  unfold vc119
  have hs := size8 ht
  have hbt := base_lt t
  have hbt0 := base_nonneg t
  have ht0 := ht.1
  have ht8 := ht.2.1
  have hw := wr (x := base t + size t) (by omega) (by omega)
  have hd := (Upd.refl (fun _ => False) w).drew
  unfold regO at ha hb
  rw [stK_neq152 (by exact hb) (by exact ha)]
  unfold size at hw ⊢
  by_cases e1 : b = a
  · simp [e1, hd]
  · by_cases e2 : u / 256 < t / 256
    · by_cases e3 : base u ≥ base t
      · simp [e1, e2, e3, ha, hb, stK_shl _ _ _ (t / 256) (by omega) ht8, hw, hd]
      · simp [e1, e2, e3, ha, hb, hd]
    · simp [e1, e2, ha, hb, hd]
end Go.Proofs.Ytaniphdbebdhhaa.Pool
