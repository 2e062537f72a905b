/-
  The document's scheduler: Queue. No condition.
-/
import Derived.Test.YtaniphdbebdhhaaRf5
namespace Go.Proofs.Ytaniphdbebdhhaa
open Go.Vk Vk.Sched

theorem ins_split (x : RE) : ∀ (pre post : List RE), (∀ y ∈ pre, ¬ x.came < y.came) → (∀ y ∈ post, x.came < y.came) → ins x (pre ++ post) = pre ++ x :: post
  | [], [], _, _ => rfl
  | [], y :: post, _, h => by simp [ins, h y (by simp)]
  | y :: pre, post, h1, h2 => by
    have := ins_split x pre post (fun z hz => h1 z (List.mem_cons_of_mem _ hz)) h2
    simp [ins, h1 y (by simp), this]

theorem re_write (L : List RE) (rest : List Value) {i : Nat} (hi : i < L.length) (e : RE) :
    writeN (recs L rest) (i * 5) [.int .i64 e.num, .int .i64 e.dom, .int .i64 e.prio, .int .i64 e.left, .int .i64 e.came] = recs (L.set i e) rest := flat_write re_len L rest i hi e

theorem writeZ (a b c d e : Value) : writeN #[.int .i64 0, .int .i64 0, .int .i64 0, .int .i64 0, .int .i64 0] 0 [a, b, c, d, e] = #[a, b, c, d, e] := rfl
theorem read5 (a b c d e : Value) : readN #[a, b, c, d, e] 0 5 = some [a, b, c, d, e] := rfl

/-- What a row of entities is, its block new. -/
def EntRow (b0 : Nat) (w : World) (v : Value) (L : List RE) : Prop := w.ownsRow 0 168 5 v L.length (L.flatMap reCells) ∧ ∀ b, v.ownBlock = some b → b0 ≤ b

section
variable {own : Nat → Option RTag} {w w' : World} {x : Nat} {R : RS} {tv lv : Value}

/-- How the inner loop finds things: the new one stands between. -/
def InsI (w : World) (l : List RE) (e : RE) (v : Value) (m : Nat) (u : Value) (w' : World) : Prop :=
  ∃ pre post, l = pre ++ post ∧ (∀ y ∈ post, e.came < y.came) ∧ u = .int .i64 pre.length ∧ m = pre.length ∧ EntRow w.heap.size w' v (pre ++ e :: post) ∧ Upd (fun _ => False) w w'

/-- How the outer loop finds things. -/
def QueI (w : World) (R : RS) (d p : Int) (m : Nat) (v u : Value) (w' : World) : Prop :=
  ∃ k : Nat, k ≤ R.L.length ∧ u = .int .i64 k ∧ m = R.L.length - k ∧ EntRow w.heap.size w' v (sortTo R.L d p k) ∧ Upd (fun _ => False) w w'

def NumI (w : World) (l : List RE) (v8 : Value) (m : Nat) (v u : Value) (w' : World) : Prop :=
  ∃ k : Nat, k ≤ l.length ∧ u = .int .i64 k ∧ m = l.length - k ∧ EntRow w.heap.size w' v8 l ∧ w'.ownsRow 0 3 1 v k (nums ((l.map (·.num)).take k)) ∧ (∀ b, v.ownBlock = some b → w.heap.size ≤ b) ∧
    (∀ b c, v.ownBlock = some b → v8.ownBlock = some c → b ≠ c) ∧ Upd (fun _ => False) w w'

theorem sortTo_len (L : List RE) (d p : Int) : ∀ k, (sortTo L d p k).length ≤ k
  | 0 => by simp [sortTo]
  | k + 1 => by
    have ih := sortTo_len L d p k
    have hins : ∀ (x : RE) (l : List RE), (ins x l).length = l.length + 1 := by
      intro x l
      induction l with
      | nil => rfl
      | cons y l ih => unfold ins; split <;> simp [ih]
    simp only [sortTo]
    split
    · omega
    · rw [hins]; omega

set_option maxRecDepth 100000 in
theorem RQueue_calls (h : RefAt own w x R tv lv) (hbig : R.L.length < 1000000000) (hw : Wf R) (d p : Int) :
    Calls Try.prog 49 #[.pointer (some ⟨x, 0, none⟩), .int .i64 d, .int .i64 p] w fun en w' => ∃ v, en = .returned (.tuple #[v, .int .i64 (R.queue d p).2]) ∧ Upd (fun _ => False) w w' ∧
      w'.ownsRow 0 3 1 v (R.queue d p).1.length (nums (R.queue d p).1) ∧ (∀ b, v.ownBlock = some b → w.heap.size ≤ b) := by
  apply vk49
  unfold vc49
  unfold RS.queue
  cases hpd : decide (d < 0 ∨ 7 < d ∨ p < 0 ∨ 7 < p) with
  | true =>
    have hp := of_decide_eq_true hpd
    have hp' : ((d < 0 ∨ 7 < d) ∨ p < 0) ∨ 7 < p := by omega
    simp only [hp, if_true]
    simp [hp']
    exact ⟨Upd.refl _ _, World.ownsRow_nil w 0 3 1, fun b hb => by simp [Value.ownBlock] at hb⟩
  | false =>
  have hp := of_decide_eq_false hpd
  have hp' : ¬ (((d < 0 ∨ 7 < d) ∨ p < 0) ∨ 7 < p) := by omega
  simp only [hp, if_false]
  simp [hp']
  refine loopK2 (QueI w R d p) R.L.length ⟨0, by omega, rfl, by omega, ⟨World.ownsRow_nil w 0 168 5, fun b hb => by simp [Value.ownBlock] at hb⟩, Upd.refl _ _⟩ ?_
  rintro m v8 u w' ⟨k, hk, rfl, rfl, ⟨hrow, hnew⟩, hu⟩
  have h' : RefAt own w' x R tv lv := h.frame (fun b hb => hu.old b (h.lt b hb) (fun f => f)) hu.size
  have hhead := h'.head
  unfold refCells at hhead
  obtain ⟨a0, c0, hv0⟩ := row_slice h.ents
  by_cases hlt : k < R.L.length
  · obtain ⟨g, cap, rest, rfl, hg, hgx, _⟩ := h'.open hlt
    have hw1 : IntKind.i64.wrap ((k : Int) + 1) = ((k + 1 : Nat) : Int) := by rw [wrap_i64 (by omega) (by omega)]; rfl
    have hnext : sortTo R.L d p (k + 1) = (let x := R.L.getD k ⟨0, 0, 0, 0, 0⟩; if x.dom ≠ d ∨ x.prio ≠ p ∨ x.came = 0 then sortTo R.L d p k else ins x (sortTo R.L d p k)) := rfl
    rw [LgetD hlt] at hnext
    simp only at hnext
    have hur := fun (o o' : Obj) => ((hu.alloc o).putB (b := w'.heap.size) (.inl hu.size) o')
    have fin : ∀ (r : List RE) (v : Value) (w2 : World), sortTo R.L d p (k + 1) = r → EntRow w.heap.size w2 v r → Upd (fun _ => False) w w2 → ∃ m', m' < R.L.length - k ∧ QueI w R d p m' v (.int .i64 ((k + 1 : Nat) : Int)) w2 :=
      fun r v w2 hr h1 h2 => ⟨_, by omega, k + 1, by omega, rfl, rfl, by rw [hr]; exact h1, h2⟩
    have hlen8 := sortTo_len R.L d p k
    have hkeep : ∀ (o o' : Obj), EntRow w.heap.size (putB (w'.alloc o) w'.heap.size o') v8 (sortTo R.L d p k) := fun o o' =>
      ⟨row_keep hrow fun g hg => by rw [putB_other (by have := row_lt hrow hg; omega), alloc_old (row_lt hrow hg)], hnew⟩
    simp [hhead, hlt]
    apply joinK_now
    by_cases c1 : R.L[k].dom = d
    · by_cases c2 : R.L[k].prio = p
      · by_cases c3 : R.L[k].came = 0
        · rw [if_pos (.inr (.inr c3))] at hnext
          simp [hg, re_read R.L rest hlt, zero168_eq, writeN, hw1, c1, c2, c3, -Int.natCast_add]
          exact fin _ _ _ hnext (hkeep _ _) (hur _ _)
        · rw [if_neg (by rintro (h | h | h); exact h c1; exact h c2; exact c3 h)] at hnext
          simp [hg, re_read R.L rest hlt, zero168_eq, writeN, hw1, c1, c2, c3, -Int.natCast_add, read5, bs100]
          obtain ⟨inf, hi1, hi2, hi3, hi4⟩ := ent_info
          have hbig8 : (sortTo R.L d p k).length < 1000000000 := by omega
          have hcells : reCells R.L[k] = [.int .i64 R.L[k].num, .int .i64 d, .int .i64 p, .int .i64 R.L[k].left, .int .i64 R.L[k].came] := by rw [← c1, ← c2]; rfl
          generalize R.L[k] = e at hnext hcells c1 c2 c3 ⊢
          have hsort := (sortTo_spec hw d p k (by omega)).1
          generalize sortTo R.L d p k = l at hnext hrow hbig8 hsort hkeep ⊢
          have hur1 := hur (.cells #[.int .i64 0, .int .i64 0, .int .i64 0, .int .i64 0, .int .i64 0] 168) (.cells #[.int .i64 e.num, .int .i64 d, .int .i64 p, .int .i64 e.left, .int .i64 e.came] 168)
          have hkeep1 := hkeep (.cells #[.int .i64 0, .int .i64 0, .int .i64 0, .int .i64 0, .int .i64 0] 168) (.cells #[.int .i64 e.num, .int .i64 d, .int .i64 p, .int .i64 e.left, .int .i64 e.came] 168)
          have hsz1 : (putB (w'.alloc (.cells #[.int .i64 0, .int .i64 0, .int .i64 0, .int .i64 0, .int .i64 0] 168)) w'.heap.size (.cells #[.int .i64 e.num, .int .i64 d, .int .i64 p, .int .i64 e.left, .int .i64 e.came] 168)).heap.size = w'.heap.size + 1 := by simp
          generalize putB (w'.alloc (.cells #[.int .i64 0, .int .i64 0, .int .i64 0, .int .i64 0, .int .i64 0] 168)) w'.heap.size (.cells #[.int .i64 e.num, .int .i64 d, .int .i64 p, .int .i64 e.left, .int .i64 e.came] 168) = w1 at hur1 hkeep1 hsz1 ⊢
          rw [← hsz1]
          refine opK_append1 Try.underlying100 hi1 hi2 hi3 hi4 rfl (by omega) (row_keep hkeep1.1 fun g hg => alloc_old (row_lt hkeep1.1 hg) _) (alloc_new _ _) (m := 1) rfl (by simp) (by simp [maxLen]; omega) (by omega) ?_
          intro v63 w3 h1 h2 h3
          have hnew3 : ∀ b, v63.ownBlock = some b → w.heap.size ≤ b := fun b hb => by
            have := hur1.size
            rcases h3 b hb with h4 | h4
            · exact hnew b h4
            · simp at h4; omega
          have hu3 : Upd (fun _ => False) w w3 := by
            refine ⟨h2.os.trans hur1.os, h2.tape.trans hur1.tape, h2.output.trans hur1.output, ?_, fun b hb _ => ?_⟩
            · have := hur1.size; have := h2.size; simp at this; omega
            · have := hur1.size
              rw [h2.block b (by simp; omega) (fun e => by have := hnew b e.symm; omega), alloc_old (by omega)]
              exact hur1.old b hb (fun f => f)
          have hrow3 : w3.ownsRow 0 168 5 v63 (l ++ [e]).length ((l ++ [e]).flatMap reCells) := by
            have : (l ++ [e]).flatMap reCells = l.flatMap reCells ++ reCells e := by simp
            rw [this, hcells, List.length_append]
            exact h1
          obtain ⟨a63, c63, hv63⟩ := row_slice hrow3
          have hw2 : IntKind.i64.wrap (l.length : Int) = l.length := wrap_i64 (by omega) (by omega)
          subst hv63
          simp [hw2]
          refine loopK1 (InsI w l e (.slice a63 (l.length + 1) c63)) l.length ⟨l, [], by simp, by simp, rfl, rfl, ⟨by simpa using hrow3, by simpa using hnew3⟩, hu3⟩ ?_
          rintro m u w4 ⟨pre, post, hl, hpost, rfl, rfl, ⟨hr4, hn4⟩, hu4⟩
          rcases List.eq_nil_or_concat pre with rfl | ⟨pre', y, rfl⟩
          · simp
            refine fin _ _ _ hnext ⟨?_, hn4⟩ hu4.drew
            have hl' : post = l := hl.symm
            have := ins_split e [] post (by simp) hpost
            simp only [List.nil_append] at this hr4
            subst hl'
            rw [this]
            exact hr4
          · have hL : pre'.concat y ++ e :: post = pre' ++ y :: e :: post := by simp
            rw [hL] at hr4
            have hll : l.length = pre'.length + 1 + post.length := by rw [hl]; simp; omega
            rcases row_open hr4 with ⟨h0, _, _⟩ | ⟨g6, cap6, rest6, hv6, hg6, hnc6, hcm6, hsz6, _⟩
            · simp at h0
            simp only [Value.slice.injEq] at hv6
            obtain ⟨rfl, _, rfl⟩ := hv6
            have hg6' : w4.heap[g6]? = some (.cells (recs (pre' ++ y :: e :: post) rest6) 168 (0, 0)) := hg6
            have hg6n : w.heap.size ≤ g6 := hn4 g6 rfl
            have hi1' : pre'.length + 1 < (pre' ++ y :: e :: post).length := by simp
            have hi0' : pre'.length < (pre' ++ y :: e :: post).length := by simp
            have hL1 : (pre' ++ y :: e :: post)[pre'.length + 1] = e := by simp
            have hL0 : (pre' ++ y :: e :: post)[pre'.length] = y := by simp
            have hwm : IntKind.i64.wrap ((pre'.length : Int) + 1 - 1) = pre'.length := by rw [wrap_i64 (by omega) (by omega)]; omega
            have hwm2 : IntKind.i64.wrap (pre'.length : Int) = pre'.length := wrap_i64 (by omega) (by omega)
            have r1 := (re_get _ rest6 hi1').2.2.2.2
            have r0 := (re_get _ rest6 hi0').2.2.2.2
            rw [hL1] at r1
            rw [hL0] at r0
            have f1 : pre'.length < l.length := by omega
            have f2 : (0 : Int) ≤ (pre'.length : Int) + 1 := by omega
            have f3 : (pre'.length : Int) < (l.length : Int) + 1 := by omega
            have f4 : (0 : Int) < (pre'.length : Int) + 1 := by omega
            have hg6l := blk_lt hg6'
            have rd1 := re_read _ rest6 hi1'
            have rd0 := re_read _ rest6 hi0'
            rw [hL1] at rd1
            rw [hL0] at rd0
            have wr1 := re_write _ rest6 hi1' y
            have wr0 := re_write (pre' ++ y :: y :: post) rest6 (i := pre'.length) (by simp) e
            rw [show (pre' ++ y :: e :: post).set (pre'.length + 1) y = pre' ++ y :: y :: post by simp] at wr1
            rw [show (pre' ++ y :: y :: post).set pre'.length e = pre' ++ e :: y :: post by simp] at wr0
            have hA : ∀ (o : Obj) (h), (w4.drew.alloc o).heap[w4.heap.size]'h = o := fun o h => alloc_get w4.drew o h
            have hB : ∀ (o o' : Obj), (putB (w4.drew.alloc o) w4.heap.size o').heap[g6]? = some (.cells (recs (pre' ++ y :: e :: post) rest6) 168 (0, 0)) := fun o o' => by
              rw [putB_other (by omega)]; exact (alloc_old (w := w4.drew) hg6l _).trans hg6'
            have hC : ∀ (o o' o'' : Obj) (h), (putB (putB (w4.drew.alloc o) w4.heap.size o') g6 o'').heap[w4.heap.size]'h = o' := fun o o' o'' h => by
              have h2 := putB_other (w := putB (w4.drew.alloc o) w4.heap.size o') (b := g6) (c := w4.heap.size) (by omega) o''
              rw [Array.getElem?_eq_getElem h, putB_same (w := w4.drew.alloc o) (b := w4.heap.size) (by simp)] at h2
              exact Option.some.inj h2
            have hD : ∀ (o o' o'' : Obj), (putB (putB (w4.drew.alloc o) w4.heap.size o') g6 o'').heap[g6]? = some o'' := fun o o' o'' => putB_same (by simp; omega) _
            have hE : ∀ (o o' o'' o3 : Obj), (putB (putB (putB (w4.drew.alloc o) w4.heap.size o') g6 o'') g6 o3).heap[g6]? = some o3 := fun o o' o'' o3 => putB_same (by simp; omega) _
            have s1 : (pre'.length + 1) * 5 + 5 ≤ (recs (pre' ++ y :: e :: post) rest6).size := by
              unfold recs; simp only [List.size_toArray, List.length_append, flat_len re_len]; simp; omega
            have s0 : pre'.length * 5 + 5 ≤ (recs (pre' ++ y :: y :: post) rest6).size := by
              unfold recs; simp only [List.size_toArray, List.length_append, flat_len re_len]; simp; omega
            by_cases hlt3 : e.came < y.came
            · simp [f1, f2, f3, f4, hg6', r1, r0, hwm2, hlt3, rd1, rd0, hA, hB, hC, hD, wr1, wr0, s1, s0, writeZ, read5]
              refine ⟨pre'.length, by omega, pre', y :: post, by rw [hl]; simp, fun z hz => ?_, rfl, rfl, ⟨?_, hn4⟩, ?_⟩
              · rcases List.mem_cons.1 hz with rfl | hz
                · exact hlt3
                · exact hpost z hz
              · have hl6 : (pre' ++ e :: y :: post).length = l.length + 1 := by rw [hll]; simp; omega
                have hl7 : ((pre' ++ e :: y :: post).flatMap reCells ++ rest6).length = c63 * 5 := by
                  rw [← hsz6, List.length_append, List.length_append, flat_len re_len, flat_len re_len]; simp
                rw [hl6]
                refine row_shut (rest := rest6) (hE _ _ _ _) (by simp at hnc6; omega) hcm6 hl7 ?_
                rw [flat_len re_len, hl6]
              · exact ((hu4.drew.alloc _).putB (.inl (by have := hu4.size; omega)) _).putB (.inl hg6n) _ |>.putB (.inl hg6n) _
            · simp [f1, f2, f3, f4, hg6', r1, r0, hwm2, hlt3]
              refine fin _ _ _ hnext ⟨?_, hn4⟩ hu4.drew
              have hpre : ∀ z ∈ pre'.concat y, ¬ e.came < z.came := fun z hz => by
                rw [hl] at hsort
                have hs1 := (List.pairwise_append.1 hsort).1
                rw [List.concat_eq_append] at hs1 hz
                rcases List.mem_append.1 hz with h | h
                · have := (List.pairwise_append.1 hs1).2.2 z h y (by simp); omega
                · rw [List.mem_singleton.1 h]; exact hlt3
              have := ins_split e _ post hpre hpost
              rw [← hl, hL] at this
              rw [this]
              exact hr4
      · rw [if_pos (.inr (.inl c2))] at hnext
        have c4 : (R.L[k].prio != p) = true := by simpa using c2
        simp [hg, re_read R.L rest hlt, zero168_eq, writeN, hw1, c1, c4, -Int.natCast_add]
        exact fin _ _ _ hnext (hkeep _ _) (hur _ _)
    · rw [if_pos (.inl c1)] at hnext
      have c4 : (R.L[k].dom != d) = true := by simpa using c1
      simp [hg, re_read R.L rest hlt, zero168_eq, writeN, hw1, c4, -Int.natCast_add]
      exact fin _ _ _ hnext (hkeep _ _) (hur _ _)
  · have hkn : k = R.L.length := by omega
    subst hkn
    have hlen8 := sortTo_len R.L d p R.L.length
    generalize sortTo R.L d p R.L.length = l at hrow hlen8 ⊢
    obtain ⟨a8, c8, rfl⟩ := row_slice hrow
    subst hv0
    simp [hhead]
    refine loopK2 (NumI w l (.slice a8 l.length c8)) l.length ⟨0, by omega, rfl, by omega, ⟨hrow, hnew⟩, World.ownsRow_nil w' 0 3 1, fun b hb => by simp [Value.ownBlock] at hb, fun b c hb => by simp [Value.ownBlock] at hb, hu⟩ ?_
    rintro m v13 u w4 ⟨k2, hk2, rfl, rfl, ⟨hr8, hn8⟩, hr13, hn13, hne, hu4⟩
    by_cases hlt2 : k2 < l.length
    · rcases row_open hr8 with ⟨h0, h00, _⟩ | ⟨g8, cap8, rest8, hv8, hg8, hnc8, hcm8, hsz8, _⟩
      · omega
      simp only [Value.slice.injEq] at hv8
      obtain ⟨rfl, _, rfl⟩ := hv8
      have hg8' : w4.heap[g8]? = some (.cells (recs l rest8) 168 (0, 0)) := hg8
      have r0 := (re_get l rest8 hlt2).1
      have hw2 : IntKind.i64.wrap ((k2 : Int) + 1) = ((k2 + 1 : Nat) : Int) := by rw [wrap_i64 (by omega) (by omega)]; rfl
      obtain ⟨inf, hi1, hi2, hi3, hi4⟩ := int_info
      simp [hlt2, hg8', r0, hw2, bs69, -Int.natCast_add]
      refine opK_append1 Try.underlying69 hi1 hi2 hi3 hi4 rfl (by omega) (row_keep hr13 fun g hg => alloc_old (row_lt hr13 hg) _) (alloc_new _ _) (m := 1) rfl (by simp) (by simp [maxLen]; omega) (by omega) ?_
      intro v' w5 h1 h2 h3
      have hg8l := blk_lt hg8'
      have h3' : ∀ b, v'.ownBlock = some b → v13.ownBlock = some b ∨ w4.heap.size + 1 ≤ b := fun b hb => by simpa using h3 b hb
      have hsz := hu4.size
      have hg13 : v13.ownBlock ≠ some g8 := fun e => hne g8 g8 e rfl rfl
      have h8 : w5.heap[g8]? = w4.heap[g8]? := by rw [h2.block g8 (by simp; omega) (fun e => hg13 e.symm), alloc_old hg8l]
      refine ⟨_, ?_, k2 + 1, by omega, rfl, rfl, ⟨row_keep hr8 fun g hg => ?_, hn8⟩, ?_, fun b hb => ?_, fun b c hb hc => ?_, ?_⟩
      · omega
      · simp [Value.ownBlock] at hg; subst hg; exact h8
      · have hmk : k2 < (l.map (·.num)).length := by simpa using hlt2
        rw [List.take_succ_eq_append_getElem hmk]
        simpa [nums] using h1
      · rcases h3' b hb with h | h
        · exact hn13 b h
        · omega
      · rcases h3' b hb with h | h
        · exact hne b c h hc
        · simp [Value.ownBlock] at hc; omega
      · exact (hu4.alloc _).trans (Upd.grown (F := fun b => v13.ownBlock = some b) h2 (fun k hk => hk)) fun b hb hc => by have := hn13 b hc; omega
    · have : k2 = l.length := by omega
      subst this
      simp
      refine ⟨hu4, ?_, hn13⟩
      rw [List.take_of_length_le (by simp)] at hr13
      simpa using hr13
end
end Go.Proofs.Ytaniphdbebdhhaa
