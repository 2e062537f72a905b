/-
  The law's books, of lists of ints: what is written down, that it is read again. No condition beyond what each theorem names.
-/
import Derived.Test.YtaniphdbebdhhaaSc6
namespace Go.Proofs.Ytaniphdbebdhhaa
open Go.Vk

def mark (k : Nat) : Int := -77 - ((k / 2 : Nat) : Int)
def marks (n : Nat) (m : Int) : List Value := List.replicate n (.int .i64 m)
theorem marks_len (n : Nat) (m : Int) : (marks n m).length = n := by simp [marks]
theorem marks_succ (n : Nat) (m : Int) : marks n m ++ [.int .i64 m] = marks (n + 1) m := by simp [marks, List.replicate_succ']

theorem slice_info : ∃ i, Try.prog.info? 69 = some i ∧ i.zero = some (.slice none 0 0) ∧ i.size = 1 ∧ i.bytes = 24 := by
  have h : (Try.prog.info? 69).map (fun i => (i.zero, i.size, i.bytes)) = some (some (.slice none 0 0), 1, 24) := by kernel_rfl
  cases hi : Try.prog.info? 69 with
  | none => rw [hi] at h; cases h
  | some i => rw [hi] at h; simp at h; exact ⟨i, rfl, h.1, h.2.1, h.2.2⟩

/-- Books in memory: their head, the row of lists, the lists full of their marks. c: the other five rows. -/
structure BooksAt (ob : Nat → Prop) (w : World) (B : Nat) (c1 c2 c3 c4 c5 bv : Value) (es : List Value) : Prop where
  head : w.heap[B]? = some (.cells #[bv, c1, c2, c3, c4, c5] 47 (0, 0))
  row : w.ownsRow 0 69 1 bv es.length es
  lists : ∀ k v, es[k]? = some v → ∃ n, n < 1100000000 ∧ w.ownsRow 0 3 1 v n (marks n (mark k))
  even : 2 ∣ es.length
  o_head : ob B
  o_row : ∀ b, bv.ownBlock = some b → ob b
  o_list : ∀ v ∈ es, ∀ b, v.ownBlock = some b → ob b
  lt : ∀ b, ob b → b < w.heap.size

theorem BooksAt.frame {ob : Nat → Prop} {w w' : World} {B : Nat} {c1 c2 c3 c4 c5 bv : Value} {es : List Value} (h : BooksAt ob w B c1 c2 c3 c4 c5 bv es) (hu : ∀ b, ob b → w'.heap[b]? = w.heap[b]?) (hs : w.heap.size ≤ w'.heap.size) :
    BooksAt ob w' B c1 c2 c3 c4 c5 bv es :=
  ⟨(hu B h.o_head).trans h.head, row_keep h.row fun g hg => hu g (h.o_row g hg), fun k v hk => by
    obtain ⟨n, hn, hr⟩ := h.lists k v hk
    exact ⟨n, hn, row_keep hr fun g hg => hu g (h.o_list v (List.mem_of_getElem? hk) g hg)⟩, h.even, h.o_head, h.o_row, h.o_list, fun b hb => Nat.lt_of_lt_of_le (h.lt b hb) hs⟩

theorem bs40 (x y : Value) (hx : x.oneCell' = true) (hy : y.oneCell' = true) (ty : TypeId) (w : World) (K : Value → World → Prop) :
    opK Try.prog (.buildSlice 40 2 #[(0, .const x), (1, .const y)]) ty w K = K (.slice (some ⟨w.heap.size, 0, none⟩) 2 2) (w.alloc (.cells #[x, y] 69)) := by
  cases x <;> simp [Value.oneCell'] at hx <;> cases y <;> simp [Value.oneCell'] at hy <;> exact opK_of (by kernel_rfl) rfl

section
variable {ob : Nat → Prop} {w : World} {B : Nat} {c1 c2 c3 c4 c5 bv : Value} {es : List Value}

theorem mark_val {n : Nat} (hn : n < 1000000000) : IntKind.i64.wrap (-77 - IntKind.i64.wrap ((n : Int) / 2)) = mark n := by
  have h1 : (n : Int) / 2 = ((n / 2 : Nat) : Int) := by omega
  rw [h1, wrap_i64 (x := ((n / 2 : Nat) : Int)) (by omega) (by omega), wrap_i64 (by omega) (by omega)]
  rfl

theorem row_ne {w : World} {e e2 z z2 n n2 : Nat} {v v2 : Value} {xs xs2 : List Value} (h : w.ownsRow 0 e z v n xs) (h2 : w.ownsRow 0 e2 z2 v2 n2 xs2) (hne : e ≠ e2) {b : Nat} (hb : v.ownBlock = some b) : v2.ownBlock ≠ some b := by
  intro hb2
  rcases row_open h with ⟨rfl, _⟩ | ⟨g, cap, rest, rfl, hg, _⟩
  · simp [Value.ownBlock] at hb
  rcases row_open h2 with ⟨rfl, _⟩ | ⟨g2, cap2, rest2, rfl, hg2, _⟩
  · simp [Value.ownBlock] at hb2
  obtain rfl : g = b := by simpa [Value.ownBlock] using hb
  obtain rfl : g2 = g := by simpa [Value.ownBlock] using hb2
  rw [hg] at hg2
  simp at hg2
  exact hne hg2.2
theorem row_not {w : World} {e z n : Nat} {v : Value} {xs : List Value} (h : w.ownsRow 0 e z v n xs) {b : Nat} {cs : Array Value} {T : Nat} {fr : Nat × Nat} (hb : w.heap[b]? = some (.cells cs T fr)) (hne : e ≠ T) : v.ownBlock ≠ some b := by
  intro hb2
  rcases row_open h with ⟨rfl, _⟩ | ⟨g, cap, rest, rfl, hg, _⟩
  · simp [Value.ownBlock] at hb2
  obtain rfl : g = b := by simpa [Value.ownBlock] using hb2
  rw [hg] at hb
  simp at hb
  exact hne hb.2.1

/-- A cell of a row is another one. -/
theorem row_set {w : World} {e n g cap : Nat} {xs : List Value} {cs : Array Value} (h : w.ownsRow 0 e 1 (.slice (some ⟨g, 0, none⟩) n cap) n xs) (hg : w.heap[g]? = some (.cells cs e (0, 0))) {k : Nat} (u : Value) :
    (putB w g (.cells (cs.setIfInBounds k u) e (0, 0))).ownsRow 0 e 1 (.slice (some ⟨g, 0, none⟩) n cap) n (xs.set k u) := by
  obtain ⟨hl, ⟨h1, _⟩ | ⟨g2, cap2, cur, hv, h0, hg2, h1, h2, h3, h4⟩⟩ := h
  · simp at h1
  · simp at hv
    obtain ⟨rfl, rfl⟩ := hv
    rw [hg] at hg2
    obtain rfl : cs = cur := by simpa using hg2
    refine ⟨by simpa using hl, .inr ⟨g, cap, _, rfl, h0, putB_same (blk_lt hg) _, h1, h2, by simpa using h3, ?_⟩⟩
    rw [Array.toList_setIfInBounds, List.take_set, h4]

theorem marks_step {k : Nat} {m : Int} {xs : List Value} (hk : k < xs.length) : (marks k m ++ xs.drop k).set k (.int .i64 m) = marks (k + 1) m ++ xs.drop (k + 1) := by
  rw [List.set_append_right _ _ (by rw [marks_len]; exact Nat.le_refl _), marks_len, Nat.sub_self, List.drop_eq_getElem_cons hk, List.set_cons_zero, ← marks_succ, List.append_assoc]
  rfl

set_option maxRecDepth 100000 in
theorem ownInts_calls (h : BooksAt ob w B c1 c2 c3 c4 c5 bv es) (hbig : es.length < 1000000000) {l : Value} {n : Nat} {xs : List Value} (hl : w.ownsRow 0 3 1 l n xs) (hn : n < 1000000000) (hlo : ∀ b, l.ownBlock = some b → ¬ ob b) :
    Calls Try.prog 51 #[.pointer (some ⟨B, 0, none⟩), l] w fun en w' => en = .returned (.tuple #[]) ∧ ∃ ob' bv' x, BooksAt ob' w' B c1 c2 c3 c4 c5 bv' (es ++ [l, x]) ∧
      Upd (fun b => ob b ∨ l.ownBlock = some b) w w' ∧ ∀ b, ob' b → ob b ∨ l.ownBlock = some b ∨ w.heap.size ≤ b := by
  apply vk51
  unfold vc51
  obtain ⟨ab, cb, hbv⟩ := row_slice h.row
  obtain ⟨al, cl, hlv⟩ := row_slice hl
  have hm := mark_val hbig
  have hxl : xs.length = n := by simpa using hl.1
  obtain ⟨mk, hmk⟩ : ∃ mk, mark es.length = mk := ⟨_, rfl⟩
  rw [hmk] at hm
  have hhead := h.head
  subst hbv
  simp [hhead, hm, -Int.natCast_add]
  obtain ⟨bv, hbv⟩ : ∃ bv, Value.slice ab es.length cb = bv := ⟨_, rfl⟩
  rw [hbv] at h hhead
  refine loopK1 (fun m v' w1 => ∃ k : Nat, k ≤ n ∧ v' = .int .i64 k ∧ m = n - k ∧ w1.ownsRow 0 3 1 l n (marks k mk ++ xs.drop k) ∧ Upd (fun b => l.ownBlock = some b) w w1) n
    ⟨0, by omega, rfl, by omega, by simpa [marks] using hl, Upd.refl _ _⟩ ?_
  rintro m v' w1 ⟨k, hk, rfl, rfl, hrow, hu⟩
  by_cases hlt : k < n
  · have hw : IntKind.i64.wrap ((k : Int) + 1) = ((k + 1 : Nat) : Int) := by rw [wrap_i64 (by omega) (by omega)]; rfl
    rcases hrow.2 with ⟨_, h0⟩ | ⟨g, cap, cur, hv2, _, hg, hn2, hm2, hs, ht⟩
    · omega
    subst hv2
    have hsz : k < cur.size := by omega
    simp [hlt, hg, hsz, hw, -Int.natCast_add]
    refine ⟨n - (k + 1), by omega, k + 1, by omega, rfl, rfl, ?_, hu.putB (.inr rfl) _⟩
    have := row_set hrow hg (k := k) (.int .i64 mk)
    rw [marks_step (by omega)] at this
    exact this
  · have hkn : k = n := by omega
    subst hkn
    have hrow' : w1.ownsRow 0 3 1 l k (marks k mk) := by
      have : xs.drop k = [] := List.drop_eq_nil_of_le (by omega)
      rw [this, List.append_nil] at hrow
      exact hrow
    subst hlv
    simp [-Int.natCast_add]
    obtain ⟨l, hlv⟩ : ∃ l, Value.slice al k cl = l := ⟨_, rfl⟩
    rw [hlv] at hl hlo hu hrow hrow' ⊢
    have hl1 := row_one hl
    obtain ⟨inf, hi1, hi2, hi3, hi4⟩ := int_info
    obtain ⟨inf2, hj1, hj2, hj3, hj4⟩ := slice_info
    refine loopK2 (fun m v6 v7 w2 => ∃ i : Nat, i ≤ 33 ∧ v7 = .int .i64 i ∧ m = 33 - i ∧ w2.ownsRow 0 3 1 v6 (k + i) (marks (k + i) mk) ∧ w2.ownsRow 0 3 1 l k (marks k mk) ∧ Upd (fun b => l.ownBlock = some b) w w2 ∧
      ∀ b, v6.ownBlock = some b → l.ownBlock = some b ∨ w.heap.size ≤ b) 33 ⟨0, by omega, rfl, by omega, hrow', hrow', hu, fun b hb => .inl hb⟩ ?_
    rintro m v6 v7 w2 ⟨i, hi, rfl, rfl, hr6, hrl, hu2, ho6⟩
    by_cases hi33 : i < 33
    · have hw : IntKind.i64.wrap ((i : Int) + 1) = ((i + 1 : Nat) : Int) := by rw [wrap_i64 (by omega) (by omega)]; rfl
      have hi33' : (i : Int) < 33 := by omega
      simp [hi33', bs69, -Int.natCast_add]
      have hr6' : (w2.alloc (.cells #[.int .i64 mk] 3)).ownsRow 0 3 1 v6 (k + i) (marks (k + i) mk) := row_keep hr6 fun g hg => alloc_old (row_lt hr6 hg) _
      have hrl' : (w2.alloc (.cells #[.int .i64 mk] 3)).ownsRow 0 3 1 l k (marks k mk) := row_keep hrl fun g hg => alloc_old (row_lt hrl hg) _
      refine opK_append1s Try.underlying69 hi1 hi2 hi3 hi4 rfl (by omega) hr6' (alloc_new _ _) (m := 1) rfl (by simp) (by simp [maxLen]; omega) (by omega) ?_
      intro v' w3 h1 h2 h3 h4
      simp only [hw]
      have hsz := hu2.size
      refine ⟨33 - (i + 1), by omega, i + 1, by omega, rfl, rfl, by simpa [marks_succ, Nat.add_assoc] using h1, h4 _ _ _ hrl' (by omega), ?_, fun b hb => ?_⟩
      · refine (hu2.alloc _).trans (Upd.grown (F := fun c => v6.ownBlock = some c) h2 fun c hc => hc) fun c hc hc6 => ?_
        rcases ho6 c hc6 with h | h
        · exact h
        · omega
      · rcases h3 b hb with h | h
        · exact ho6 b h
        · simp at h; omega
    · have hi33' : ¬ (i : Int) < 33 := by omega
      obtain rfl : i = 33 := by omega
      have hBl : ∀ b, ob b → ¬ l.ownBlock = some b := fun b hb hlb => hlo b hlb hb
      have keep2 : ∀ b, ob b → w2.heap[b]? = w.heap[b]? := fun b hb => hu2.old b (h.lt b hb) (hBl b hb)
      have hh2 : w2.heap[B]? = some (.cells #[bv, c1, c2, c3, c4, c5] 47 (0, 0)) := (keep2 B h.o_head).trans hhead
      have hrb2 : w2.ownsRow 0 69 1 bv es.length es := row_keep h.row fun g hg => keep2 g (h.o_row g hg)
      have hsz2 := hu2.size
      simp [hh2, bs40 _ _ hl1 (row_one hr6), -Int.natCast_add]
      have hrb3 : (w2.alloc (.cells #[l, v6] 69)).ownsRow 0 69 1 bv es.length es := row_keep hrb2 fun g hg => alloc_old (row_lt hrb2 hg) _
      have hh3 : (w2.alloc (.cells #[l, v6] 69)).heap[B]? = some (.cells #[bv, c1, c2, c3, c4, c5] 47 (0, 0)) := (alloc_old (blk_lt hh2) _).trans hh2
      have hbvB : bv.ownBlock ≠ some B := row_not hrb2 hh2 (by decide)
      refine opK_append1 Try.underlying40 hj1 hj2 hj3 hj4 rfl (by omega) hrb3 (alloc_new _ _) (m := 2) rfl (by intro u hu; simp at hu; rcases hu with rfl | rfl; exact hl1; exact row_one hr6) (by simp [maxLen]; omega) (by omega) ?_
      intro bv' w4 h1 h2 h3
      have hsz4 : w2.heap.size + 1 ≤ w4.heap.size := by simpa using h2.size
      have hh4 : w4.heap[B]? = some (.cells #[bv, c1, c2, c3, c4, c5] 47 (0, 0)) := (h2.block B (blk_lt hh3) (fun e => hbvB e.symm)).trans hh3
      have hB' : bv'.ownBlock ≠ some B := row_not h1 hh4 (by decide)
      rw [hh4]
      have keep4 : ∀ g, g < w2.heap.size → bv.ownBlock ≠ some g → g ≠ B → ∀ o, (putB w4 B o).heap[g]? = w2.heap[g]? := fun g hg hne hgB o => by
        rw [putB_other hgB, h2.block g (by simp; omega) (fun e => hne e.symm), alloc_old hg]
      refine ⟨rfl, by simp, row_one h1, fun b => ob b ∨ l.ownBlock = some b ∨ (w.heap.size ≤ b ∧ b < w4.heap.size), ⟨bv', v6, ?_⟩, ?_, fun b hb => ?_⟩
      · refine ⟨?_, ?_, fun j v hj => ?_, ?_, .inl h.o_head, fun b hb => ?_, fun v hv b hb => ?_, fun b hb => ?_⟩
        · rw [putB_same (blk_lt hh4)]; simp
        · have := row_keep (w' := putB w4 B (.cells (#[bv, c1, c2, c3, c4, c5].setIfInBounds 0 bv') 47 (0, 0))) h1 fun g hg => putB_other (fun e => hB' (by rw [hg, e])) _
          simpa using this
        · have kr : ∀ {u : Value} {nu : Nat} {ys : List Value}, w2.ownsRow 0 3 1 u nu ys → (putB w4 B (.cells (#[bv, c1, c2, c3, c4, c5].setIfInBounds 0 bv') 47 (0, 0))).ownsRow 0 3 1 u nu ys := fun {u nu ys} hr =>
            row_keep hr fun g hg => keep4 g (row_lt hr hg) (row_ne hr hrb2 (by decide) hg) (fun e => row_not hr hh2 (by decide) (by rw [hg, e])) _
          rcases Nat.lt_or_ge j es.length with hje | hje
          · rw [List.getElem?_append_left hje] at hj
            obtain ⟨nj, hnj, hrj⟩ := h.lists j v hj
            exact ⟨nj, hnj, kr (row_keep hrj fun g hg => keep2 g (h.o_list v (List.mem_of_getElem? hj) g hg))⟩
          · rw [List.getElem?_append_right hje] at hj
            obtain ⟨q, hq⟩ := h.even
            rcases hjj : j - es.length with _ | _ | j'
            · rw [hjj] at hj
              simp at hj
              subst hj
              obtain rfl : j = es.length := by omega
              exact ⟨k, by omega, by rw [hmk]; exact kr hrl⟩
            · rw [hjj] at hj
              simp at hj
              subst hj
              have he : mark j = mk := by
                rw [← hmk]
                unfold mark
                rw [show j / 2 = es.length / 2 by omega]
              exact ⟨k + 33, by omega, by rw [he]; exact kr hr6⟩
            · rw [hjj] at hj
              simp at hj
        · obtain ⟨q, hq⟩ := h.even
          exact ⟨q + 1, by simp; omega⟩
        · rcases h3 b hb with hb2 | hb2
          · exact .inl (h.o_row b hb2)
          · simp at hb2
            exact .inr (.inr ⟨by omega, row_lt h1 hb⟩)
        · rcases List.mem_append.1 hv with hv | hv
          · exact .inl (h.o_list v hv b hb)
          · simp at hv
            rcases hv with rfl | rfl
            · exact .inr (.inl hb)
            · rcases ho6 b hb with hb2 | hb2
              · exact .inr (.inl hb2)
              · have := row_lt hr6 hb
                exact .inr (.inr ⟨hb2, by omega⟩)
        · rw [size_putB]
          rcases hb with hb | hb | hb
          · have := h.lt b hb; omega
          · have := row_lt hl hb; omega
          · exact hb.2
      · refine Upd.putB ?_ (.inr (.inl h.o_head)) _
        refine ((hu2.alloc _).mono (fun x hx => .inr hx)).trans (Upd.grown (F := fun c => bv.ownBlock = some c) h2 fun c hc => hc) fun c hc hcb => .inl (h.o_row c hcb)
      · rcases hb with hb | hb | hb
        · exact .inl hb
        · exact .inr (.inl hb)
        · exact .inr (.inr hb.1)
end
end Go.Proofs.Ytaniphdbebdhhaa
