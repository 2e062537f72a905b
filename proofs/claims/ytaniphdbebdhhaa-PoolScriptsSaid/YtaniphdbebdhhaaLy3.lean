/-
  The law PoolScripts, walked: it returns true, and nothing that lay before has turned. No condition beyond what the theorem names.
-/
import Derived.Test.YtaniphdbebdhhaaLy2
import Derived.Test.YtaniphdbebdhhaaJo
namespace Go.Proofs.Ytaniphdbebdhhaa.Pool
open Go.Vk Vk.Pool

section
variable {G0 : Nat → Prop} {w0 w : World} {A B : HP} {p : Prop} {α : Type} {F : α → HP}
theorem _root_.Go.Vk.At.exL (h : At G0 w0 (Sep (Ex F) B) w) : ∃ a, At G0 w0 (Sep (F a) B) w :=
  let ⟨G, ⟨G1, G2, ⟨a, h1⟩, h2⟩, h3⟩ := h
  ⟨a, G, ⟨G1, G2, h1, h2⟩, h3⟩
theorem _root_.Go.Vk.At.prL (h : At G0 w0 (Sep (Pr p A) B) w) : p ∧ At G0 w0 (Sep A B) w :=
  let ⟨G, ⟨G1, G2, ⟨hp, h1⟩, h2⟩, h3⟩ := h
  ⟨hp, G, ⟨G1, G2, h1, h2⟩, h3⟩
theorem _root_.Go.Vk.At.put (h : At G0 w0 A w) : At G0 w0 (Sep A Emp) w := h.mono fun _ h => Sep.emp h
end
theorem new_tri {n : Int} {R : RP} (h : RP.new n = some R) : TriE Try.prog Emp 25 #[.int .i64 n] (fun x : Nat => .tuple #[.pointer (some ⟨x, 0, none⟩), .int .i64 0]) fun x => PoolH x R := fun G w hG => by
  have := New_calls n w
  rw [h] at this
  exact this.mono fun _ _ ⟨x, G', h1, h2, h3⟩ => ⟨G', ⟨x, h1, h2⟩, fun b hb => (h3.new b hb).elim False.elim .inr, h3.upd.mono fun _ f => f.elim⟩
theorem rnew_tri {n : Int} {R : RP} (h : RP.new n = some R) : TriE Try.prog Emp 26 #[.int .i64 n] (fun x : Nat => .tuple #[.pointer (some ⟨x, 0, none⟩), .int .i64 0]) fun x => RefH x R := fun G w hG => by
  have := NewPool_calls n w
  rw [h] at this
  exact this.mono fun _ _ ⟨x, G', h1, h2, h3⟩ => ⟨G', ⟨x, h1, h2⟩, fun b hb => (h3.new b hb).elim False.elim .inr, h3.upd.mono fun _ f => f.elim⟩

def zR : RP := ⟨5, [], []⟩
def zA : RP := (zR.add ⟨1, 2⟩).2
def zG : RP := (zA.give 2 7 0 1).2
theorem z_new : RP.new 5 = some zR := rfl
theorem z_give : (zA.give 2 7 0 1).1.1.length = 1 := by decide
theorem z_mark : zG.mark 2 = (1, 0) := by decide

theorem b47 (ty : TypeId) (w : World) (K : Value → World → Prop) : opK Try.prog (.build 47 #[]) ty w K = K (.agg #[nilS, nilS, nilS, nilS, nilS, nilS]) w := opK_of (by kernel_rfl) rfl
theorem books0 {B : Nat} {G : Nat → Prop} {w : World} (h : Cell B (.cells #[nilS, nilS, nilS, nilS, nilS, nilS] 47 (0, 0)) G w) : BooksH B 0 G w :=
  ⟨nilS, [], nilS, [], h.1, BRow.nil w, BRow.nil w, Nat.le_refl _, Nat.le_refl _, fun b => by rw [h.2]; simp [Bl, Value.ownBlock]⟩
/-- How things stand after j steps. -/
def StP (w0 : World) (x r B z j : Nat) (w : World) : Prop := ∃ R k, k ≤ 2 * j ∧ At (fun _ => False) w0 (Sep (All x r B R k) (PoolH z zG)) w
/-- A round of the script. -/
def StL (w0 : World) (x r B z n : Nat) (m : Nat) (v : Value) (w : World) : Prop := ∃ j : Nat, j ≤ n ∧ j ≤ 262144 ∧ v = .int .i64 j ∧ m = n - j ∧ StP w0 x r B z j w
theorem Sep.books {P D Z K : HP} {G : Nat → Prop} {w : World} (h : Sep (Sep (Sep P D) Z) K G w) : Sep (Sep P (Sep D K)) Z G w :=
  have h1 := Sep.assoc h
  have h2 : Sep (Sep P D) (Sep K Z) G w := h1.mono (fun _ h => h) fun _ h => h.comm
  (Sep.assoc' h2).mono (fun _ h => Sep.assoc h) fun _ h => h

set_option maxHeartbeats 2000000 in
set_option maxRecDepth 100000 in
theorem poolScripts_calls {w : World} {v : Value} {n : Int} {os : List OpR} (hv : RowAt w 6 v os.length (os.flatMap opCells)) (hbig : os.length ≤ 9000000000000000000) :
    Calls Try.prog 6 #[.int .i64 n, v] w fun en w' => en = .returned (.bool true) ∧ Upd (fun _ => False) w w' := by
  apply vk6
  unfold vc6
  refine callK_of (near_calls n 257 (by decide)) ?_
  rintro _ w1 ⟨rfl, rfl⟩
  refine ⟨_, rfl, ?_⟩
  have h0 : At (fun _ => False) w1 Emp w1 := At.start fun _ f => f
  cases hR : RP.new (nearV n 257) with
  | none =>
    have c1 := New_calls (nearV n 257) w1
    rw [hR] at c1
    refine h0.callU c1 ?_
    intro w2 h2
    have c2 := NewPool_calls (nearV n 257) w2
    rw [hR] at c2
    simp
    refine h2.callU c2 ?_
    intro w3 h3
    simp
    refine h3.call (new_tri z_new) ?_
    intro z w4 h4 _
    simp [b84]
    refine h4.call (add_tri z zR ⟨1, 2⟩ ⟨by decide, by decide⟩) ?_
    intro _ w5 h5 _
    refine h5.call (give_tri z zA 2 7 0 1) ?_
    intro l w6 h6 _
    have hl : ∃ a c, l = .slice a 1 c := by
      obtain ⟨_, ⟨_, _, _, hr, _⟩, _⟩ := h6
      rw [z_give] at hr
      exact row_slice hr.1
    obtain ⟨a, c, rfl⟩ := hl
    simp
    obtain ⟨_, _, hm⟩ := h6
    exact hm.upd
  | some R =>
    refine h0.call (new_tri hR) ?_
    intro x w2 h2 _
    simp
    refine h2.put.call (rnew_tri hR).frameL ?_
    intro r w3 h3 _
    simp
    refine h3.put.call (new_tri z_new).frameL ?_
    intro z w4 h4 _
    simp [b84]
    refine h4.call (add_tri z zR ⟨1, 2⟩ ⟨by decide, by decide⟩).frameL ?_
    intro _ w5 h5 _
    refine h5.call (give_tri z zA 2 7 0 1).frameL ?_
    intro l w6 h6 _
    have hl : ∃ a c, l = .slice a 1 c := by
      obtain ⟨_, ⟨_, _, _, ⟨_, _, _, hr, _⟩, _⟩, _⟩ := h6
      rw [z_give] at hr
      exact row_slice hr.1
    obtain ⟨a, c, rfl⟩ := hl
    have h7 : At (fun _ => False) w1 (Sep (Sep (PoolH x R) (RefH r R)) (PoolH z zG)) w6 := (h6.mono fun _ h => Sep.assoc' h).drop
    simp
    rw [b47]
    obtain ⟨W, hW, hu, f0, s0⟩ := one w6 (.cells (Value.agg #[nilS, nilS, nilS, nilS, nilS, nilS]).cells 47)
    rw [hW]
    have h8 := (h7.new hu (Nat.le_refl _) f0).mono fun _ h => Sep.books (h.mono (fun _ h => h) fun _ h => books0 h)
    generalize w6.heap.size = B at h8 ⊢
    have hst : StP w1 x r B z 0 W := ⟨R, 0, by omega, h8⟩
    have hnl : ∀ n : Nat, IntKind.i64.wrap ((n : Int) + 1) = ((n + 1 : Nat) : Int) ∨ ¬ n < 9000000000000000001 := fun n => by
      rcases Nat.lt_or_ge n 9000000000000000001 with h | h
      · left; rw [wrap_i64 (by omega) (by omega)]; rfl
      · right; omega
    obtain ⟨a2, cp2, hvs2⟩ := hv.slice
    refine loopK1 (StL w1 x r B z os.length) os.length ⟨0, by omega, by omega, rfl, by omega, hst⟩ ?_
    rintro m v' wi ⟨j, hj, hj2, rfl, rfl, R', k, hk, hS⟩
    by_cases hlt : j < os.length ∧ j < 262144
    · obtain ⟨e1, e2⟩ := hlt
      have e1' : (j : Int) < os.length := by omega
      have e2' : (j : Int) < 262144 := by omega
      have hw := (hnl j).resolve_right (by omega)
      rcases hv with ⟨_, e0, _⟩ | ⟨g, o, cap, cs, T, fr, rfl, hg, hl, hcs⟩
      · omega
      have hgi : wi.heap[g]? = some (.cells cs T fr) := by
        obtain ⟨_, _, hm⟩ := hS
        exact (hm.upd.old g (blk_lt hg) (fun f => f)).trans hg
      have hrd := op_readA hcs e1
      simp [e1', e2', hgi, hrd, -Int.natCast_add]
      refine hS.call (lay_tri x r B k R' (by omega) (kd := os[j].kd) (a := os[j].a) (b := os[j].b) (c := os[j].c) (d := os[j].d) rfl rfl rfl rfl rfl os[j].ra os[j].rb).frame ?_
      intro R2 w9 h9 _
      obtain ⟨k2, h9⟩ := h9.exL
      obtain ⟨hk2, h9⟩ := h9.prL
      simp [hw, -Int.natCast_add]
      exact ⟨os.length - (j + 1), by omega, j + 1, by omega, by omega, rfl, rfl, R2, k2, by omega, h9⟩
    · have hc : ¬ (j : Int) < os.length ∨ ((j : Int) < os.length ∧ ¬ (j : Int) < 262144) := by
        by_cases h1 : j < os.length
        · exact .inr ⟨by omega, fun h2 => hlt ⟨h1, by omega⟩⟩
        · exact .inl (by omega)
      subst hvs2
      rcases hc with h1 | ⟨h1, h2⟩
      all_goals
        first
          | simp [h1, h2, -Int.natCast_add]
          | simp [h1, -Int.natCast_add]
        refine hS.call (objectsL_tri x r B k R' (by omega)).frame ?_
        intro _ w9 h9 _
        refine h9.call (reads_tri B (k + 2) (by omega)).frameL.frameL.frame ?_
        intro _ w10 h10 _
        refine h10.call (mark_tri z zG 2).frameL ?_
        intro _ w11 h11 _
        rw [z_mark]
        simp
        obtain ⟨_, _, hm⟩ := h11
        exact hm.upd
end Go.Proofs.Ytaniphdbebdhhaa.Pool
