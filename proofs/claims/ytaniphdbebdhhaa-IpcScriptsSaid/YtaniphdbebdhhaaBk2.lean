/-
  The law's books are read again: every list of ints reads as it was marked. No condition beyond what each theorem names.
-/
import Derived.Test.YtaniphdbebdhhaaBk1
namespace Go.Proofs.Ytaniphdbebdhhaa
open Go.Vk

section
variable {ob : Nat → Prop} {w : World} {B : Nat} {c1 c2 c3 c4 c5 bv : Value} {es : List Value}

set_option maxRecDepth 100000 in
theorem readsMore_calls {cs : Array Value} (h : w.heap[B]? = some (.cells cs 47 (0, 0))) (h3 : cs[3]? = some (.slice none 0 0)) (h4 : cs[4]? = some (.slice none 0 0)) (h5 : cs[5]? = some (.slice none 0 0)) :
    Calls Try.prog 54 #[.pointer (some ⟨B, 0, none⟩)] w fun en w' => en = .returned (.bool true) ∧ w' = w := by
  apply vk54
  unfold vc54
  refine loopK1 (fun _ v' w1 => v' = .int .i64 0 ∧ w1 = w) 0 ⟨rfl, rfl⟩ ?_
  rintro m v' w1 ⟨rfl, rfl⟩
  simp [h, h3]
  refine loopK1 (fun _ v' w2 => v' = .int .i64 0 ∧ w2 = w1) 0 ⟨rfl, rfl⟩ ?_
  rintro m v' w2 ⟨rfl, rfl⟩
  simp [h, h4]
  refine loopK1 (fun _ v' w1 => v' = .int .i64 0 ∧ w1 = w2) 0 ⟨rfl, rfl⟩ ?_
  rintro m v' w3 ⟨rfl, rfl⟩
  simp [h, h5]

theorem marks_get {n j : Nat} {m : Int} (h : j < n) : (marks n m)[j]? = some (.int .i64 m) := by simp [marks, h]

/-- What is known of a row's cell. -/
theorem row_cell {w : World} {e n : Nat} {v : Value} {xs : List Value} (h : w.ownsRow 0 e 1 v n xs) {j : Nat} (hj : j < n) : ∃ g cap cs, v = .slice (some ⟨g, 0, none⟩) n cap ∧ w.heap[g]? = some (.cells cs e (0, 0)) ∧ cs[j]? = xs[j]? := by
  obtain ⟨hl, ⟨h1, h0⟩ | ⟨g, cap, cur, hv, _, hg, h1, h2, h3, h4⟩⟩ := h
  · omega
  · refine ⟨g, cap, cur, hv, hg, ?_⟩
    rw [← h4, List.getElem?_take, if_pos (by omega), Array.getElem?_toList]

set_option maxRecDepth 100000 in
theorem reads_calls {ob : Nat → Prop} {w : World} {B : Nat} {bv : Value} {es : List Value} (h : BooksAt ob w B (.slice none 0 0) (.slice none 0 0) (.slice none 0 0) (.slice none 0 0) (.slice none 0 0) bv es) (hbig : es.length < 1000000000) :
    Calls Try.prog 16 #[.pointer (some ⟨B, 0, none⟩)] w fun en w' => en = .returned (.bool true) ∧ w' = w := by
  apply vk16
  unfold vc16
  have hhead := h.head
  obtain ⟨ab, cb, hbv⟩ := row_slice h.row
  have hrow := h.row
  refine loopK1 (fun m v' w1 => ∃ k : Nat, k ≤ es.length ∧ v' = .int .i64 k ∧ m = es.length - k ∧ w1 = w) es.length ⟨0, by omega, rfl, by omega, rfl⟩ ?_
  rintro m v' w1 ⟨k, hk, rfl, rfl, rfl⟩
  by_cases hlt : k < es.length
  · have hw : IntKind.i64.wrap ((k : Int) + 1) = ((k + 1 : Nat) : Int) := by rw [wrap_i64 (by omega) (by omega)]; rfl
    obtain ⟨g, cap, cs, hv2, hg, hc⟩ := row_cell hrow hlt
    obtain ⟨v, hvk⟩ : ∃ v, es[k]? = some v := ⟨es[k], by simp [hlt]⟩
    rw [hvk] at hc
    obtain ⟨n, hn, hr⟩ := h.lists k v hvk
    obtain ⟨av, cv, hvv⟩ := row_slice hr
    have hm := mark_val (n := k) (by omega)
    subst hv2
    simp [hhead, hlt, hw, -Int.natCast_add]
    refine loopK1 (fun m v' w2 => ∃ j : Nat, j ≤ n ∧ v' = .int .i64 j ∧ m = n - j ∧ w2 = w1) n ⟨0, by omega, rfl, by omega, rfl⟩ ?_
    rintro m v' w2 ⟨j, hj, rfl, rfl, rfl⟩
    have hw2 : IntKind.i64.wrap ((j : Int) + 1) = ((j + 1 : Nat) : Int) := by rw [wrap_i64 (by omega) (by omega)]; rfl
    by_cases hjn : j < n
    · obtain ⟨g2, cap2, cs2, hv3, hg2, hc2⟩ := row_cell hr hjn
      rw [marks_get hjn] at hc2
      subst hv3
      simp [hhead, hlt, hg, hc, hjn, hg2, hc2, hm, hw2, -Int.natCast_add]
      exact ⟨n - (j + 1), by omega, j + 1, by omega, rfl, rfl⟩
    · obtain rfl : j = n := by omega
      subst hvv
      simp [hhead, hlt, hg, hc, -Int.natCast_add]
      exact ⟨es.length - (k + 1), by omega, k + 1, by omega, rfl, rfl⟩
  · obtain rfl : k = es.length := by omega
    subst hbv
    simp [hhead]
    refine loopK1 (fun _ v' w2 => v' = .int .i64 0 ∧ w2 = w1) 0 ⟨rfl, rfl⟩ ?_
    rintro m v' w2 ⟨rfl, rfl⟩
    simp [hhead]
    refine loopK1 (fun _ v' w1 => v' = .int .i64 0 ∧ w1 = w2) 0 ⟨rfl, rfl⟩ ?_
    rintro m v' w1 ⟨rfl, rfl⟩
    simp [hhead]
    refine callK_of (readsMore_calls hhead rfl rfl rfl) ?_
    rintro r w2 ⟨rfl, rfl⟩
    exact ⟨_, rfl, rfl, rfl⟩
end
end Go.Proofs.Ytaniphdbebdhhaa
