/-
  The law's own: pick, near, a region, an object by raw numbers; lists compared. Condition: raw numbers are Go's ints.
-/
import Derived.Test.YtaniphdbebdhhaaBkr
namespace Go.Proofs.Ytaniphdbebdhhaa.Pool
open Go.Vk Vk.Pool

/-- In Go's ints. -/
def R64 (n : Int) : Prop := -9223372036854775808 ≤ n ∧ n ≤ 9223372036854775807
theorem r64_wrap (x : Int) : R64 (IntKind.i64.wrap x) := by
  unfold R64 IntKind.wrap
  simp [IntKind.signed, IntKind.bits]
  omega

def pickV (n k : Int) : Int := (if n < 0 then IntKind.i64.wrap (-(IntKind.i64.wrap (n + 1))) else n).tmod k
def nearV (n k : Int) : Int := if n.tmod 31 = 30 then n else IntKind.i64.wrap (pickV n (IntKind.i64.wrap (k + 2)) - 1)
theorem r64_near {n : Int} (h : R64 n) (k : Int) : R64 (nearV n k) := by
  unfold nearV
  split
  · exact h
  · exact r64_wrap _
theorem pick_nn {n : Int} (h : R64 n) {k : Int} (hk : 0 < k) : 0 ≤ pickV n k ∧ pickV n k < k := by
  unfold pickV
  obtain ⟨h1, h2⟩ := h
  have : 0 ≤ (if n < 0 then IntKind.i64.wrap (-(IntKind.i64.wrap (n + 1))) else n) := by
    split
    · rw [wr (x := n + 1) (by omega) (by omega), wr (by omega) (by omega)]; omega
    · omega
  exact ⟨Int.tmod_nonneg _ this, Int.tmod_lt_of_pos _ hk⟩

theorem run_int_neg {P : Program} (k : IntKind) (x : Int) (t : TypeId) (ty : TypeId) (w : World) : (execOp bare { dst := none, op := .unOp .neg t (.const (.int k x)), type := ty, pos := "", after := #[], guard := none }).run P w = .ok (.value (.int k (k.wrap (-x)))) w := by
  simp [execOp, bare, Act.eval, Op.unary, Op.intArith]
@[simp ↓] theorem opK_int_neg {P : Program} (k : IntKind) (x : Int) (t : TypeId) (ty : TypeId) (w : World) (K : Value → World → Prop) : opK P (.unOp .neg t (.const (.int k x))) ty w K = K (.int k (k.wrap (-x))) w := opK_of (run_int_neg k x t ty w) rfl

theorem pick_calls {w : World} (n k : Int) (hk : k ≠ 0) : Calls Try.prog 44 #[.int .i64 n, .int .i64 k] w fun en w' => en = .returned (.int .i64 (pickV n k)) ∧ w' = w := by
  apply vk44
  unfold vc44 pickV
  by_cases h : n < 0
  · refine joinK1 (fun v w' => v = .int .i64 (IntKind.i64.wrap (-(IntKind.i64.wrap (n + 1)))) ∧ w' = w) ?_ ?_
    · simp [h]
    · rintro v w' ⟨rfl, rfl⟩
      simp [hk, h]
  · refine joinK1 (fun v w' => v = .int .i64 n ∧ w' = w) ?_ ?_
    · simp [h]
    · rintro v w' ⟨rfl, rfl⟩
      simp [hk, h]

theorem near_calls {w : World} (n k : Int) (hk : IntKind.i64.wrap (k + 2) ≠ 0) : Calls Try.prog 24 #[.int .i64 n, .int .i64 k] w fun en w' => en = .returned (.int .i64 (nearV n k)) ∧ w' = w := by
  apply vk24
  unfold vc24 nearV
  by_cases h : n.tmod 31 = 30
  · simp [h]
  · simp [h]
    refine callK_of (pick_calls n _ hk) ?_
    rintro e w2 ⟨rfl, rfl⟩
    refine ⟨_, rfl, ?_⟩
    simp

theorem stcK_of {P : Program} {f : FuncId} {args : Array Value} {w : World} {K : Value → Prop} {v : Value} (h : Calls P f args w fun en w' => en = .returned v ∧ w' = w) (hK : K v) : stcK P f args w K := ⟨v, h, hK⟩

theorem numcell {xs : List Int} {rest : List Value} {i : Nat} (h : i < xs.length) : (nums xs ++ rest).toArray[i]? = some (.int .i64 xs[i]) := by
  simp [List.getElem?_append, h, nums]

set_option maxRecDepth 100000 in
theorem sameInts_calls {w : World} {u v : Value} {a b : List Int} (hu : w.ownsRow 0 3 1 u a.length (nums a)) (hv : w.ownsRow 0 3 1 v b.length (nums b)) (ha : a.length < 9000000000000000000) :
    Calls Try.prog 50 #[u, v] w fun en w' => en = .returned (.bool (decide (a = b))) ∧ Upd (fun _ => False) w w' := by
  apply vk50
  unfold vc50
  obtain ⟨a1, c1, h1⟩ := row_slice hu
  obtain ⟨a2, c2, h2⟩ := row_slice hv
  by_cases hl : a.length = b.length
  · have hl' : ((a.length : Int) != (b.length : Int)) = false := by simp [hl]
    subst h1
    subst h2
    simp [hl]
    refine loopK1 (fun m v' w' => Upd (fun _ => False) w w' ∧ ∃ k : Nat, k ≤ a.length ∧ v' = .int .i64 k ∧ m = a.length - k ∧ a.take k = b.take k) a.length ⟨Upd.refl _ _, 0, by omega, rfl, by omega, by simp⟩ ?_
    rintro m v' w' ⟨hw, k, hk, rfl, rfl, hab⟩
    by_cases hlt : k < a.length
    · rcases row_open hu with ⟨_, h0, _⟩ | ⟨g, cap, rest, e1, hg, _⟩
      · omega
      rcases row_open hv with ⟨_, h0, _⟩ | ⟨g2, cap2, rest2, e2, hg2, _⟩
      · omega
      simp only [Value.slice.injEq] at e1 e2
      obtain ⟨rfl, _, rfl⟩ := e1
      obtain ⟨rfl, _, rfl⟩ := e2
      have hg' := (hw.old g (blk_lt hg) (fun f => f)).trans hg
      have hg2' := (hw.old g2 (blk_lt hg2) (fun f => f)).trans hg2
      have hlt2 : k < b.length := by omega
      have r1 := numcell (rest := rest) hlt
      have r2 := numcell (rest := rest2) hlt2
      have hwr : IntKind.i64.wrap ((k : Int) + 1) = ((k + 1 : Nat) : Int) := by rw [wrap_i64 (by omega) (by omega)]; rfl
      by_cases e : a[k] = b[k]
      · have e' : (a[k] != b[k]) = false := by simp [e]
        simp [← hl, hlt, hg', hg2', r1, r2, e, hwr, -Int.natCast_add]
        refine ⟨_, ?_, hw.drew, k + 1, by omega, rfl, rfl, ?_⟩
        · omega
        · rw [List.take_succ_eq_append_getElem hlt, List.take_succ_eq_append_getElem hlt2, hab, e]
      · have e' : (a[k] != b[k]) = true := by simpa using e
        have hne : ¬ a = b := fun h => e (by simp [h])
        simp [← hl, hlt, hg', hg2', r1, r2, e', hne]
        exact hw.drew
    · have : k = a.length := by omega
      subst this
      have : a = b := by rwa [List.take_length, hl, List.take_length] at hab
      simp [← hl, this]
      exact hw
  · have hl' : ((a.length : Int) != (b.length : Int)) = true := by simp; omega
    have hne : ¬ a = b := fun h => hl (by rw [h])
    subst h1
    subst h2
    simp [hl', hne]
    exact Upd.refl _ _

set_option maxRecDepth 100000 in
theorem sameObjects_calls {w : World} {u v : Value} {a b : List Ob} (hu : w.ownsRow 0 84 2 u a.length (a.flatMap obCells)) (hv : w.ownsRow 0 84 2 v b.length (b.flatMap obCells)) (ha : a.length < 9000000000000000000) :
    Calls Try.prog 90 #[u, v] w fun en w' => en = .returned (.bool (decide (a = b))) ∧ Upd (fun _ => False) w w' := by
  apply vk90
  unfold vc90
  obtain ⟨a1, c1, h1⟩ := row_slice hu
  obtain ⟨a2, c2, h2⟩ := row_slice hv
  by_cases hl : a.length = b.length
  · have hl' : ((a.length : Int) != (b.length : Int)) = false := by simp [hl]
    subst h1
    subst h2
    simp [hl]
    refine loopK1 (fun m v' w' => Upd (fun _ => False) w w' ∧ ∃ k : Nat, k ≤ a.length ∧ v' = .int .i64 k ∧ m = a.length - k ∧ a.take k = b.take k) a.length ⟨Upd.refl _ _, 0, by omega, rfl, by omega, by simp⟩ ?_
    rintro m v' w' ⟨hw, k, hk, rfl, rfl, hab⟩
    by_cases hlt : k < a.length
    · rcases row_open hu with ⟨_, h0, _⟩ | ⟨g, cap, rest, e1, hg, _⟩
      · omega
      rcases row_open hv with ⟨_, h0, _⟩ | ⟨g2, cap2, rest2, e2, hg2, _⟩
      · omega
      simp only [Value.slice.injEq] at e1 e2
      obtain ⟨rfl, _, rfl⟩ := e1
      obtain ⟨rfl, _, rfl⟩ := e2
      have hg' := (hw.old g (blk_lt hg) (fun f => f)).trans hg
      have hg2' := (hw.old g2 (blk_lt hg2) (fun f => f)).trans hg2
      have hlt2 : k < b.length := by omega
      have r1 := flat_read ob_len a rest k hlt
      have r2 := flat_read ob_len b rest2 k hlt2
      have hwr : IntKind.i64.wrap ((k : Int) + 1) = ((k + 1 : Nat) : Int) := by rw [wrap_i64 (by omega) (by omega)]; rfl
      generalize (a.flatMap obCells ++ rest).toArray = C1 at hg' r1
      generalize (b.flatMap obCells ++ rest2).toArray = C2 at hg2' r2
      by_cases e : a[k] = b[k]
      · simp [← hl, hlt, hg', hg2', r1, r2, e, hwr, stK_neq84, -Int.natCast_add]
        refine ⟨_, ?_, hw.drew, k + 1, by omega, rfl, rfl, ?_⟩
        · omega
        · rw [List.take_succ_eq_append_getElem hlt, List.take_succ_eq_append_getElem hlt2, hab, e]
      · have hne : ¬ a = b := fun h => e (by simp [h])
        simp [← hl, hlt, hg', hg2', r1, r2, e, hne, stK_neq84]
        exact hw.drew
    · have : k = a.length := by omega
      subst this
      have : a = b := by rwa [List.take_length, hl, List.take_length] at hab
      simp [← hl, this]
      exact hw
  · have hl' : ((a.length : Int) != (b.length : Int)) = true := by simp; omega
    have hne : ¬ a = b := fun h => hl (by rw [h])
    subst h1
    subst h2
    simp [hl', hne]
    exact Upd.refl _ _

theorem ex_wrap {f : FuncId} {args : Array Value} (h : ∃ y : Int, ∀ w : World, Calls Try.prog f args w fun en w' => en = .returned (.int .i64 (IntKind.i64.wrap y)) ∧ Upd (fun _ => False) w w') :
    ∃ r : Int, R64 r ∧ ∀ w : World, Calls Try.prog f args w fun en w' => en = .returned (.int .i64 r) ∧ Upd (fun _ => False) w w' :=
  let ⟨_, h⟩ := h
  ⟨_, r64_wrap _, h⟩
theorem nine {r : Int} (h0 : 0 ≤ r) (h9 : r < 9) : r = 0 ∨ r = 1 ∨ r = 2 ∨ r = 3 ∨ r = 4 ∨ r = 5 ∨ r = 6 ∨ r = 7 ∨ r = 8 := by omega
theorem bsl1 (ty : TypeId) (w : World) (K : Value → World → Prop) : opK Try.prog (.buildSlice 69 9 #[(0, (.const (.int .i64 1))), (1, (.const (.int .i64 2))), (2, (.const (.int .i64 4))), (3, (.const (.int .i64 8))), (4, (.const (.int .i64 16))), (5, (.const (.int .i64 32))), (6, (.const (.int .i64 64))), (7, (.const (.int .i64 128))), (8, (.const (.int .i64 256)))]) ty w K =
    K (.slice (some ⟨w.heap.size, 0, none⟩) 9 9) (w.alloc (.cells #[.int .i64 1, .int .i64 2, .int .i64 4, .int .i64 8, .int .i64 16, .int .i64 32, .int .i64 64, .int .i64 128, .int .i64 256] 3)) := opK_of (by kernel_rfl) rfl
theorem bsl2 (ty : TypeId) (w : World) (K : Value → World → Prop) : opK Try.prog (.buildSlice 69 9 #[(0, (.const (.int .i64 64))), (1, (.const (.int .i64 32))), (2, (.const (.int .i64 16))), (3, (.const (.int .i64 8))), (4, (.const (.int .i64 4))), (5, (.const (.int .i64 2))), (6, (.const (.int .i64 4))), (7, (.const (.int .i64 2))), (8, (.const (.int .i64 1)))]) ty w K =
    K (.slice (some ⟨w.heap.size, 0, none⟩) 9 9) (w.alloc (.cells #[.int .i64 64, .int .i64 32, .int .i64 16, .int .i64 8, .int .i64 4, .int .i64 2, .int .i64 4, .int .i64 2, .int .i64 1] 3)) := opK_of (by kernel_rfl) rfl

set_option maxHeartbeats 1000000 in
set_option maxRecDepth 100000 in
theorem region_ex (n : Int) (h : R64 n) : ∃ r : Int, R64 r ∧ ∀ w : World, Calls Try.prog 83 #[.int .i64 n] w fun en w' => en = .returned (.int .i64 r) ∧ Upd (fun _ => False) w w' := by
  by_cases e : n.tmod 29 = 28
  · refine ⟨n, h, fun w => ?_⟩
    apply vk83
    unfold vc83
    simp [e]
    exact Upd.refl _ _
  · obtain ⟨h0, h1⟩ := pick_nn h (k := 1048576) (by omega)
    have h9 := nine (Int.tmod_nonneg 9 h0) (Int.tmod_lt_of_pos (pickV n 1048576) (show (0 : Int) < 9 by omega))
    refine ex_wrap ?_
    rcases h9 with e9 | e9 | e9 | e9 | e9 | e9 | e9 | e9 | e9
    all_goals
      apply Exists.intro
      intro w
      apply vk83
      unfold vc83
      simp [e]
      refine callK_of (pick_calls n 1048576 (by decide)) ?_
      rintro r w2 ⟨rfl, rfl⟩
      refine ⟨_, rfl, ?_⟩
      simp only [opK_int_rem, e9, bsl1, show ((9 : Int) = 0) = False by simp, if_false, ne_eq, not_false_eq_true]
      obtain ⟨W, hW, hu, f0, hs⟩ := one w2 (.cells #[.int .i64 1, .int .i64 2, .int .i64 4, .int .i64 8, .int .i64 16, .int .i64 32, .int .i64 64, .int .i64 128, .int .i64 256] 3)
      rw [hW]
      simp [e9, f0]
      obtain ⟨W2, hW2, hu2, f2, hs2⟩ := one W (.cells #[.int .i64 64, .int .i64 32, .int .i64 16, .int .i64 8, .int .i64 4, .int .i64 2, .int .i64 4, .int .i64 2, .int .i64 1] 3)
      rw [bsl2, hW2]
      simp [e9, f2]
      exact ⟨rfl, hu.trans hu2 fun _ _ f => f⟩
end Go.Proofs.Ytaniphdbebdhhaa.Pool
