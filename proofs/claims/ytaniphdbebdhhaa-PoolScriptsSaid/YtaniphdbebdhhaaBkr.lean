/-
  The law's books are read again: every list reads as it was marked. No condition beyond what each theorem names.
-/
import Derived.Test.YtaniphdbebdhhaaBki
namespace Go.Proofs.Ytaniphdbebdhhaa.Pool
open Go.Vk Vk.Pool

/-- What is known of a row's cell. -/
theorem row_cell {w : World} {e z n : Nat} {v : Value} {xs : List Value} (h : w.ownsRow 0 e z v n xs) {j : Nat} (hj : j < n * z) : ∃ g cap cs, v = .slice (some ⟨g, 0, none⟩) n cap ∧ w.heap[g]? = some (.cells cs e (0, 0)) ∧ n ≤ cap ∧ cap * z = cs.size ∧ cs[j]? = xs[j]? := by
  rcases row_open h with ⟨rfl, h0, _⟩ | ⟨g, cap, rest, hv, hg, h1, h2, h3, h4⟩
  · subst h0; omega
  · refine ⟨g, cap, _, hv, hg, h1, by simpa using h3.symm, ?_⟩
    rw [List.getElem?_toArray, List.getElem?_append_left (by omega)]
theorem rep_get {α : Type} {f : α → List Value} {z : Nat} (hz : ∀ a, (f a).length = z) (n : Nat) (x : α) {j q : Nat} (hj : j < n) (hq : q < z) : ((List.replicate n x).flatMap f)[j * z + q]? = (f x)[q]? := by
  have := flat_get (f := f) hz (List.replicate n x) [] j q (by simpa using hj) hq
  simpa using this

set_option maxHeartbeats 1000000 in
set_option maxRecDepth 100000 in
theorem readsMore_calls {w : World} {B : Nat} {cs : Array Value} {v : Value} {es : List Value} (hh : w.heap[B]? = some (.cells cs 47 (0, 0))) (h3 : cs[3]? = some v) (h4 : cs[4]? = some (.slice none 0 0)) (h5 : cs[5]? = some (.slice none 0 0))
    (h : BRow 146 84 2 obCells (fun m => ⟨0, m⟩) w v es) (hbig : es.length < 1000000000) :
    Calls Try.prog 54 #[.pointer (some ⟨B, 0, none⟩)] w fun en w' => en = .returned (.bool true) ∧ w' = w := by
  apply vk54
  unfold vc54
  have hrow := h.row
  obtain ⟨ab, cb, hbv⟩ := row_slice h.row
  refine loopK1 (fun m v' w1 => ∃ k : Nat, k ≤ es.length ∧ v' = .int .i64 k ∧ m = es.length - k ∧ w1 = w) es.length ⟨0, by omega, rfl, by omega, rfl⟩ ?_
  rintro m v' w1 ⟨k, hk, rfl, rfl, rfl⟩
  by_cases hlt : k < es.length
  · have hw : IntKind.i64.wrap ((k : Int) + 1) = ((k + 1 : Nat) : Int) := by rw [wr (by omega) (by omega)]; rfl
    obtain ⟨g, cap, cs1, hv2, hg, _, _, hc⟩ := row_cell hrow (j := k) (by omega)
    obtain ⟨u, huk⟩ : ∃ u, es[k]? = some u := ⟨es[k], by simp [hlt]⟩
    rw [huk] at hc
    obtain ⟨n, hn, hr⟩ := h.lists k u huk
    obtain ⟨av, cv, hvv⟩ := row_slice hr
    have hm := mark_val (n := k) (by omega)
    subst hv2
    simp [hh, h3, hlt, hw, -Int.natCast_add]
    refine loopK1 (fun m v' w2 => ∃ j : Nat, j ≤ n ∧ v' = .int .i64 j ∧ m = n - j ∧ w2 = w1) n ⟨0, by omega, rfl, by omega, rfl⟩ ?_
    rintro m v' w2 ⟨j, hj, rfl, rfl, rfl⟩
    have hw2 : IntKind.i64.wrap ((j : Int) + 1) = ((j + 1 : Nat) : Int) := by rw [wr (by omega) (by omega)]; rfl
    by_cases hjn : j < n
    · obtain ⟨g2, cap2, cs2, hv3, hg2, _, _, hc2⟩ := row_cell hr (j := j * 2 + 1) (by omega)
      rw [rep_get ob_len n _ hjn (by omega)] at hc2
      subst hv3
      simp [hh, h3, hlt, hg, hc, hjn, hg2, hc2, obCells, hm, hw2, -Int.natCast_add]
      exact ⟨n - (j + 1), by omega, j + 1, by omega, rfl, rfl⟩
    · obtain rfl : j = n := by omega
      subst hvv
      simp [hh, h3, hlt, hg, hc, -Int.natCast_add]
      exact ⟨es.length - (k + 1), by omega, k + 1, by omega, rfl, rfl⟩
  · obtain rfl : k = es.length := by omega
    subst hbv
    simp [hh, h3]
    refine loopK1 (fun _ v' w2 => v' = .int .i64 0 ∧ w2 = w1) 0 ⟨rfl, rfl⟩ ?_
    rintro m v' w2 ⟨rfl, rfl⟩
    simp [hh, h4]
    refine loopK1 (fun _ v' w1 => v' = .int .i64 0 ∧ w1 = w2) 0 ⟨rfl, rfl⟩ ?_
    rintro m v' w3 ⟨rfl, rfl⟩
    simp [hh, h5]

set_option maxHeartbeats 1000000 in
set_option maxRecDepth 100000 in
theorem reads_calls {w : World} {B : Nat} {cs : Array Value} {v v3 : Value} {es es3 : List Value} (hh : w.heap[B]? = some (.cells cs 47 (0, 0))) (h0 : cs[0]? = some v) (h1 : cs[1]? = some (.slice none 0 0)) (h2 : cs[2]? = some (.slice none 0 0))
    (h3 : cs[3]? = some v3) (h4 : cs[4]? = some (.slice none 0 0)) (h5 : cs[5]? = some (.slice none 0 0))
    (h : BRow 69 3 1 intCells (fun m => m) w v es) (hbig : es.length < 1000000000) (ho : BRow 146 84 2 obCells (fun m => ⟨0, m⟩) w v3 es3) (hbig3 : es3.length < 1000000000) :
    Calls Try.prog 16 #[.pointer (some ⟨B, 0, none⟩)] w fun en w' => en = .returned (.bool true) ∧ w' = w := by
  apply vk16
  unfold vc16
  have hrow := h.row
  obtain ⟨ab, cb, hbv⟩ := row_slice h.row
  refine loopK1 (fun m v' w1 => ∃ k : Nat, k ≤ es.length ∧ v' = .int .i64 k ∧ m = es.length - k ∧ w1 = w) es.length ⟨0, by omega, rfl, by omega, rfl⟩ ?_
  rintro m v' w1 ⟨k, hk, rfl, rfl, rfl⟩
  by_cases hlt : k < es.length
  · have hw : IntKind.i64.wrap ((k : Int) + 1) = ((k + 1 : Nat) : Int) := by rw [wr (by omega) (by omega)]; rfl
    obtain ⟨g, cap, cs1, hv2, hg, _, _, hc⟩ := row_cell hrow (j := k) (by omega)
    obtain ⟨u, huk⟩ : ∃ u, es[k]? = some u := ⟨es[k], by simp [hlt]⟩
    rw [huk] at hc
    obtain ⟨n, hn, hr⟩ := h.lists k u huk
    obtain ⟨av, cv, hvv⟩ := row_slice hr
    have hm := mark_val (n := k) (by omega)
    subst hv2
    simp [hh, h0, hlt, hw, -Int.natCast_add]
    refine loopK1 (fun m v' w2 => ∃ j : Nat, j ≤ n ∧ v' = .int .i64 j ∧ m = n - j ∧ w2 = w1) n ⟨0, by omega, rfl, by omega, rfl⟩ ?_
    rintro m v' w2 ⟨j, hj, rfl, rfl, rfl⟩
    have hw2 : IntKind.i64.wrap ((j : Int) + 1) = ((j + 1 : Nat) : Int) := by rw [wr (by omega) (by omega)]; rfl
    by_cases hjn : j < n
    · obtain ⟨g2, cap2, cs2, hv3, hg2, _, _, hc2⟩ := row_cell hr (j := j * 1 + 0) (by omega)
      rw [rep_get int_len n _ hjn (by omega), Nat.mul_one, Nat.add_zero] at hc2
      subst hv3
      simp [hh, h0, hlt, hg, hc, hjn, hg2, hc2, intCells, hm, hw2, -Int.natCast_add]
      exact ⟨n - (j + 1), by omega, j + 1, by omega, rfl, rfl⟩
    · obtain rfl : j = n := by omega
      subst hvv
      simp [hh, h0, hlt, hg, hc, -Int.natCast_add]
      exact ⟨es.length - (k + 1), by omega, k + 1, by omega, rfl, rfl⟩
  · obtain rfl : k = es.length := by omega
    subst hbv
    simp [hh, h0]
    refine loopK1 (fun _ v' w2 => v' = .int .i64 0 ∧ w2 = w1) 0 ⟨rfl, rfl⟩ ?_
    rintro m v' w2 ⟨rfl, rfl⟩
    simp [hh, h1]
    refine loopK1 (fun _ v' w1 => v' = .int .i64 0 ∧ w1 = w2) 0 ⟨rfl, rfl⟩ ?_
    rintro m v' w3 ⟨rfl, rfl⟩
    simp [hh, h2]
    refine callK_of (readsMore_calls hh h3 h4 h5 ho hbig3) ?_
    rintro r w4 ⟨rfl, rfl⟩
    exact ⟨_, rfl, rfl, rfl⟩
end Go.Proofs.Ytaniphdbebdhhaa.Pool
