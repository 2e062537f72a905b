/-
  Contracts of the law's pick and near. No condition.
-/
import Derived.Test.YtaniphdbebdhhaaRf6
namespace Go.Proofs.Ytaniphdbebdhhaa
open Go.Vk Vk.Sched

/-- What pick gives: any number for a raw one and a divisor, in Go's ints. -/
def pickV (n k : Int) : Int := (if n < 0 then IntKind.i64.wrap (-(IntKind.i64.wrap (n + 1))) else n).tmod k
def nearV (n k : Int) : Int := if n.tmod 31 = 30 then n else IntKind.i64.wrap (pickV n (IntKind.i64.wrap (k + 2)) - 1)

theorem run_int_neg {P : Program} (k : IntKind) (x : Int) (t : TypeId) (ty : TypeId) (w : World) : (execOp bare { dst := none, op := .unOp .neg t (.const (.int k x)), type := ty, pos := "", after := #[], guard := none }).run P w = .ok (.value (.int k (k.wrap (-x)))) w := by
  simp [execOp, bare, Act.eval, Op.unary, Op.intArith]
@[simp ↓] theorem opK_int_neg {P : Program} (k : IntKind) (x : Int) (t : TypeId) (ty : TypeId) (w : World) (K : Value → World → Prop) : opK P (.unOp .neg t (.const (.int k x))) ty w K = K (.int k (k.wrap (-x))) w := opK_of (run_int_neg k x t ty w) rfl

theorem pick_calls {w : World} (n k : Int) (hk : k ≠ 0) : Calls Try.prog 44 #[.int .i64 n, .int .i64 k] w fun en w' => en = .returned (.int .i64 (pickV n k)) ∧ w' = w := by
  apply vk44
  unfold vc44 pickV
  by_cases h : n < 0
  · refine joinK1 (fun v w' => v = .int .i64 (IntKind.i64.wrap (-(IntKind.i64.wrap (n + 1)))) ∧ w' = w) ?_ ?_
    · simp [h]
    · rintro v w' ⟨rfl, rfl⟩
      simp [hk, h]
  · refine joinK1 (fun v w' => v = .int .i64 n ∧ w' = w) ?_ ?_
    · simp [h]
    · rintro v w' ⟨rfl, rfl⟩
      simp [hk, h]

theorem near_calls {w : World} (n k : Int) (hk : IntKind.i64.wrap (k + 2) ≠ 0) : Calls Try.prog 24 #[.int .i64 n, .int .i64 k] w fun en w' => en = .returned (.int .i64 (nearV n k)) ∧ w' = w := by
  apply vk24
  unfold vc24 nearV
  by_cases h : n.tmod 31 = 30
  · simp [h]
  · simp [h]
    refine callK_of (pick_calls n _ hk) ?_
    rintro e w2 ⟨rfl, rfl⟩
    refine ⟨_, rfl, ?_⟩
    simp

theorem stcK_of {P : Program} {f : FuncId} {args : Array Value} {w : World} {K : Value → Prop} {v : Value} (h : Calls P f args w fun en w' => en = .returned v ∧ w' = w) (hK : K v) : stcK P f args w K := ⟨v, h, hK⟩

set_option maxRecDepth 100000 in
theorem sameInts_calls {w : World} {u v : Value} {a b : List Int} (hu : w.ownsRow 0 3 1 u a.length (nums a)) (hv : w.ownsRow 0 3 1 v b.length (nums b)) (ha : a.length < 9000000000000000000) :
    Calls Try.prog 50 #[u, v] w fun en w' => en = .returned (.bool (decide (a = b))) ∧ Upd (fun _ => False) w w' := by
  apply vk50
  unfold vc50
  obtain ⟨a1, c1, h1⟩ := row_slice hu
  obtain ⟨a2, c2, h2⟩ := row_slice hv
  by_cases hl : a.length = b.length
  · have hl' : ((a.length : Int) != (b.length : Int)) = false := by simp [hl]
    subst h1
    subst h2
    simp [hl]
    refine loopK1 (fun m v' w' => Upd (fun _ => False) w w' ∧ ∃ k : Nat, k ≤ a.length ∧ v' = .int .i64 k ∧ m = a.length - k ∧ a.take k = b.take k) a.length ⟨Upd.refl _ _, 0, by omega, rfl, by omega, by simp⟩ ?_
    rintro m v' w' ⟨hw, k, hk, rfl, rfl, hab⟩
    by_cases hlt : k < a.length
    · rcases row_open hu with ⟨_, h0, _⟩ | ⟨g, cap, rest, e1, hg, _⟩
      · omega
      rcases row_open hv with ⟨_, h0, _⟩ | ⟨g2, cap2, rest2, e2, hg2, _⟩
      · omega
      simp only [Value.slice.injEq] at e1 e2
      obtain ⟨rfl, _, rfl⟩ := e1
      obtain ⟨rfl, _, rfl⟩ := e2
      have hg' := (hw.old g (blk_lt hg) (fun f => f)).trans hg
      have hg2' := (hw.old g2 (blk_lt hg2) (fun f => f)).trans hg2
      have hlt2 : k < b.length := by omega
      have r1 := rowcell (rest := rest) hlt
      have r2 := rowcell (rest := rest2) hlt2
      have hwr : IntKind.i64.wrap ((k : Int) + 1) = ((k + 1 : Nat) : Int) := by rw [wrap_i64 (by omega) (by omega)]; rfl
      by_cases e : a[k] = b[k]
      · have e' : (a[k] != b[k]) = false := by simp [e]
        simp [← hl, hlt, hg', hg2', r1, r2, e, hwr, -Int.natCast_add]
        refine ⟨_, ?_, hw.drew, k + 1, by omega, rfl, rfl, ?_⟩
        · omega
        · rw [List.take_succ_eq_append_getElem hlt, List.take_succ_eq_append_getElem hlt2, hab, e]
      · have e' : (a[k] != b[k]) = true := by simpa using e
        have hne : ¬ a = b := fun h => e (by simp [h])
        simp [← hl, hlt, hg', hg2', r1, r2, e', hne]
        exact hw.drew
    · have : k = a.length := by omega
      subst this
      have : a = b := by rwa [List.take_length, hl, List.take_length] at hab
      simp [← hl, this]
      exact hw
  · have hl' : ((a.length : Int) != (b.length : Int)) = true := by simp; omega
    have hne : ¬ a = b := fun h => hl (by rw [h])
    subst h1
    subst h2
    simp [hl', hne]
    exact Upd.refl _ _
end Go.Proofs.Ytaniphdbebdhhaa
