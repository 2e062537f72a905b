/-
  The document's scheduler: first, Next, Add, Remove, Queue, New. No condition.
-/
import Derived.Test.YtaniphdbebdhhaaRf1
namespace Go.Proofs.Ytaniphdbebdhhaa
open Go.Vk Vk.Sched

theorem zero168_eq : zero168 = #[.int .i64 0, .int .i64 0, .int .i64 0, .int .i64 0, .int .i64 0] := by kernel_rfl
theorem re_read (L : List RE) (rest : List Value) {i : Nat} (hi : i < L.length) : readN (recs L rest) (i * 5) 5 = some [.int .i64 L[i].num, .int .i64 L[i].dom, .int .i64 L[i].prio, .int .i64 L[i].left, .int .i64 L[i].came] :=
  flat_read re_len L rest i hi

@[simp] theorem putB_get (w : World) (b : Nat) (o : Obj) (h) : (putB w b o).heap[b]'h = o := by
  have h' : b < w.heap.size := by simpa using h
  have := putB_same h' o
  rw [Array.getElem?_eq_getElem h] at this
  exact Option.some.inj this
@[simp] theorem alloc_get (w : World) (o : Obj) (h) : (w.alloc o).heap[w.heap.size]'h = o := by
  have := alloc_new w o
  rw [Array.getElem?_eq_getElem h] at this
  exact Option.some.inj this

def optI : Option Nat → Int | none => -1 | some i => i

section
variable {own : Nat → Option RTag} {w w' : World} {x : Nat} {R : RS} {tv lv : Value}

theorem firstTo_lt (L : List RE) (d : Int) : ∀ k i, firstTo L d k = some i → i < k
  | 0, i, h => by simp [firstTo] at h
  | k + 1, i, h => by
    have ih := firstTo_lt L d k
    simp only [firstTo, better] at h
    split at h
    · have := ih i h; omega
    · split at h
      · have : k = i := by simpa using h
        omega
      · rename_i b hb
        split at h
        · have : k = i := by simpa using h
          omega
        · have : b = i := by simpa using h
          subst this
          have := ih b hb; omega

def FirstI (w : World) (R : RS) (d : Int) (m : Nat) (v u : Value) (w' : World) : Prop :=
  ∃ k : Nat, k ≤ R.L.length ∧ v = .int .i64 (optI (firstTo R.L d k)) ∧ u = .int .i64 k ∧ m = R.L.length - k ∧ Upd (fun _ => False) w w'

set_option maxRecDepth 100000 in
theorem rfirst_calls (h : RefAt own w x R tv lv) (hbig : R.L.length < 1000000000) (d : Int) :
    Calls Try.prog 99 #[.pointer (some ⟨x, 0, none⟩), .int .i64 d] w fun en w' => en = .returned (.int .i64 (optI (R.first d))) ∧ Upd (fun _ => False) w w' := by
  apply vk99
  unfold vc99
  obtain ⟨a0, c0, hv0⟩ := row_slice h.ents
  refine loopK2 (FirstI w R d) R.L.length ⟨0, by omega, rfl, rfl, by omega, Upd.refl _ _⟩ ?_
  rintro m v u w' ⟨k, hk, rfl, rfl, rfl, hu⟩
  have h' : RefAt own w' x R tv lv := h.frame (fun b hb => hu.old b (h.lt b hb) (fun f => f)) hu.size
  have hhead := h'.head
  unfold refCells at hhead
  by_cases hlt : k < R.L.length
  · obtain ⟨g, cap, rest, rfl, hg, hgx, _⟩ := h'.open hlt
    have hw : IntKind.i64.wrap ((k : Int) + 1) = ((k + 1 : Nat) : Int) := by rw [wrap_i64 (by omega) (by omega)]; rfl
    have hnext : firstTo R.L d (k + 1) = better R.L d (firstTo R.L d k) k := rfl
    unfold better at hnext
    rw [LgetD hlt] at hnext
    have hxl := blk_lt hhead
    have hgl := blk_lt hg
    have ho : ∀ (o : Obj), (w'.alloc o).heap[x]? = w'.heap[x]? := fun o => alloc_old hxl o
    have hog : ∀ (o : Obj), (w'.alloc o).heap[g]? = w'.heap[g]? := fun o => alloc_old hgl o
    have hp : ∀ (w0 : World) (o : Obj), (putB w0 w'.heap.size o).heap[x]? = w0.heap[x]? := fun w0 o => putB_other (by omega) o
    have hpg : ∀ (w0 : World) (o : Obj), (putB w0 w'.heap.size o).heap[g]? = w0.heap[g]? := fun w0 o => putB_other (by omega) o
    have hps : ∀ (o o' : Obj), (putB (w'.alloc o) w'.heap.size o').heap[w'.heap.size]? = some o' := fun o o' => putB_same (by simp) _
    have fin : ∀ (r : Option Nat) (w2 : World), firstTo R.L d (k + 1) = r → Upd (fun _ => False) w w2 → ∃ m', m' < R.L.length - k ∧ FirstI w R d m' (.int .i64 (optI r)) (.int .i64 ((k + 1 : Nat) : Int)) w2 :=
      fun r w2 hr h2 => ⟨_, by omega, k + 1, by omega, by rw [hr], rfl, rfl, h2⟩
    have hur := fun (o o' : Obj) => ((hu.alloc o).putB (b := w'.heap.size) (.inl hu.size) o')
    simp [hhead, hlt]
    apply joinK_now
    by_cases e1 : R.L[k].dom = d
    · by_cases e2 : R.L[k].came = 0
      · rw [if_pos (.inr e2)] at hnext
        simp [hg, re_read R.L rest hlt, zero168_eq, writeN, hw, e1, e2]
        exact fin _ _ hnext (hur _ _)
      · rw [if_neg (by rintro (h | h); exact h e1; exact e2 h)] at hnext
        cases hb : firstTo R.L d k with
        | none =>
          rw [hb] at hnext
          have hm1 : optI none = -1 := rfl
          simp [hg, re_read R.L rest hlt, zero168_eq, writeN, hw, e1, e2, hm1]
          exact fin _ _ hnext (hur _ _).drew
        | some b =>
          have hbk := firstTo_lt _ _ _ _ hb
          have hbl : b < R.L.length := by omega
          rw [hb] at hnext
          simp only at hnext
          rw [LgetD hbl] at hnext
          have hb0 : ¬ ((b : Int) < 0) := by omega
          have r1 := re_get R.L rest hbl
          have hm1 : optI (some b) = (b : Int) := rfl
          have hm2 : optI (some k) = (k : Int) := rfl
          by_cases p1 : R.L[b].prio < R.L[k].prio
          · rw [if_pos (.inl p1)] at hnext
            simp [hhead, hg, re_read R.L rest hlt, zero168_eq, writeN, hw, e1, e2, hm1, hb0, hp, ho, hpg, hog, hbl, r1.2.2.1, p1]
            exact fin _ _ hnext (hur _ _).drew
          · by_cases p2 : R.L[k].prio = R.L[b].prio
            · have p4 : (R.L[k].prio == R.L[b].prio) = true := by simpa using p2
              by_cases p3 : R.L[k].came < R.L[b].came
              · rw [if_pos (.inr ⟨p2, p3⟩)] at hnext
                simp [hhead, hg, re_read R.L rest hlt, zero168_eq, writeN, hw, e1, e2, hm1, hb0, hp, ho, hpg, hog, hbl, r1.2.2.1, r1.2.2.2.2, p2, p3]
                exact fin _ _ hnext (hur _ _).drew
              · rw [if_neg (by omega)] at hnext
                simp [hhead, hg, re_read R.L rest hlt, zero168_eq, writeN, hw, e1, e2, hm1, hb0, hp, ho, hpg, hog, hbl, r1.2.2.1, r1.2.2.2.2, p2, p3]
                exact fin _ _ hnext (hur _ _).drew
            · have p4 : (R.L[k].prio == R.L[b].prio) = false := by simpa using p2
              rw [if_neg (by omega)] at hnext
              simp [hhead, hg, re_read R.L rest hlt, zero168_eq, writeN, hw, e1, e2, hm1, hb0, hp, ho, hpg, hog, hbl, r1.2.2.1, p1, p4]
              exact fin _ _ hnext (hur _ _).drew
    · rw [if_pos (.inl e1)] at hnext
      have e4 : (R.L[k].dom != d) = true := by simpa using e1
      simp [hg, re_read R.L rest hlt, zero168_eq, writeN, hw, e4]
      exact fin _ _ hnext (hur _ _)
  · have : k = R.L.length := by omega
    subst this
    simp [hhead, hv0]
    exact ⟨rfl, hu⟩
end
end Go.Proofs.Ytaniphdbebdhhaa
