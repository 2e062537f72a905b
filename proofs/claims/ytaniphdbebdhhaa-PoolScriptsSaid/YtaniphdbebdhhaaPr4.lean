/-
  Pages and untypeds: contracts of the document's Give, All. No condition beyond what each theorem names.
-/
import Derived.Test.YtaniphdbebdhhaaPr3
namespace Go.Proofs.Ytaniphdbebdhhaa.Pool
open Go.Vk Vk.Pool

section
variable {G : Nat → Prop} {w w' : World} {r : Nat} {R : RP} {ov gv : Value}

theorem RefAt.stays0 (h : RefAt G w r R ov gv) (hu : Upd (fun _ => False) w w') : PNext G w w' (Sep (RefH r R) (Row 3 1 (.slice none 0 0) 0 [])) :=
  ⟨G, ⟨G, fun _ => False, ⟨_, _, h.same hu⟩, row_nil _ _ _, fun _ _ f => f, fun b => by simp⟩, Mv.only hu⟩

/-- The parts of the document's pool, while Give is under way: nothing is known of its invariant. -/
structure RefRaw (G : Nat → Prop) (w : World) (r : Nat) (R : RP) (ov gv : Value) : Prop where
  head : w.heap[r]? = some (.cells #[.int .i64 R.n, ov, gv] 151 (0, 0))
  orow : w.ownsRow 0 84 2 ov R.O.length (R.O.flatMap obCells)
  grow : w.ownsRow 0 204 2 gv R.G.length (R.G.flatMap rgCells)
  o_head : G r
  o_o : ∀ b, ov.ownBlock = some b → G b
  o_g : ∀ b, gv.ownBlock = some b → G b
  lt : ∀ b, G b → b < w.heap.size
theorem RefAt.raw (h : RefAt G w r R ov gv) : RefRaw G w r R ov gv := ⟨h.head, h.orow, h.grow, h.o_head, h.o_o, h.o_g, h.lt⟩
theorem RefRaw.full (h : RefRaw G w r R ov gv) (hi : Inv R) : RefAt G w r R ov gv := ⟨h.head, h.orow, h.grow, hi, h.o_head, h.o_o, h.o_g, h.lt⟩
theorem RefRaw.frame (h : RefRaw G w r R ov gv) (hf : ∀ b, G b → w'.heap[b]? = w.heap[b]?) (hs : w.heap.size ≤ w'.heap.size) : RefRaw G w' r R ov gv :=
  ⟨(hf r h.o_head).trans h.head, row_keep h.orow fun g hg => hf g (h.o_o g hg), row_keep h.grow fun g hg => hf g (h.o_g g hg), h.o_head, h.o_o, h.o_g, fun b hb => Nat.lt_of_lt_of_le (h.lt b hb) hs⟩
theorem RefRaw.same (h : RefRaw G w r R ov gv) (hu : Upd (fun _ => False) w w') : RefRaw G w' r R ov gv := h.frame (fun b hb => hu.old b (h.lt b hb) fun f => f) hu.size
theorem RefRaw.appO (h : RefRaw G w r R ov gv) {w5 : World} {v' : Value} {O' : List Ob} (r1 : w5.ownsRow 0 84 2 v' O'.length (O'.flatMap obCells)) (r2 : Upd (fun c => ov.ownBlock = some c) w w5) (r3 : ∀ b, v'.ownBlock = some b → ov.ownBlock = some b ∨ w.heap.size ≤ b) :
    w5.heap[r]? = some (.cells #[.int .i64 R.n, ov, gv] 151 (0, 0)) ∧ ∃ G', RefRaw G' (putB w5 r (.cells #[.int .i64 R.n, v', gv] 151)) r { R with O := O' } v' gv ∧ Mv G G' w (putB w5 r (.cells #[.int .i64 R.n, v', gv] 151)) := by
  have hor : ov.ownBlock ≠ some r := row_not h.orow h.head (by decide)
  have hgr : gv.ownBlock ≠ some r := row_not h.grow h.head (by decide)
  have hr5 : w5.heap[r]? = _ := (r2.old r (h.lt r h.o_head) hor).trans h.head
  have hvr : v'.ownBlock ≠ some r := row_not r1 hr5 (by decide)
  refine ⟨hr5, fun b => G b ∨ v'.ownBlock = some b, ⟨putB_same (blk_lt hr5) _, row_keep r1 fun g hg => putB_other (fun e => hvr (by rw [← e]; exact hg)) _, row_keep h.grow fun g hg => ?_, .inl h.o_head, fun b hb => .inr hb, fun b hb => .inl (h.o_g b hb), fun b hb => ?_⟩, fun b hb => ?_, ?_⟩
  · rw [putB_other (fun e => hgr (by rw [← e]; exact hg))]
    exact r2.old g (row_lt h.grow hg) (row_ne h.grow h.orow (by decide) hg)
  · rw [size_putB]
    rcases hb with hb | hb
    · have := h.lt b hb; have := r2.size; omega
    · exact row_lt r1 hb
  · rcases hb with hb | hb
    · exact .inl hb
    · exact (r3 b hb).imp (h.o_o b) id
  · exact Upd.putB (F := G) (r2.mono fun c hc => h.o_o c hc) (.inr h.o_head) _
theorem RefRaw.appG (h : RefRaw G w r R ov gv) {w5 : World} {v' : Value} {G2 : List Rg} (r1 : w5.ownsRow 0 204 2 v' G2.length (G2.flatMap rgCells)) (r2 : Upd (fun c => gv.ownBlock = some c) w w5) (r3 : ∀ b, v'.ownBlock = some b → gv.ownBlock = some b ∨ w.heap.size ≤ b) :
    w5.heap[r]? = some (.cells #[.int .i64 R.n, ov, gv] 151 (0, 0)) ∧ ∃ G', RefRaw G' (putB w5 r (.cells #[.int .i64 R.n, ov, v'] 151)) r { R with G := G2 } ov v' ∧ Mv G G' w (putB w5 r (.cells #[.int .i64 R.n, ov, v'] 151)) := by
  have hor : ov.ownBlock ≠ some r := row_not h.orow h.head (by decide)
  have hgr : gv.ownBlock ≠ some r := row_not h.grow h.head (by decide)
  have hr5 : w5.heap[r]? = _ := (r2.old r (h.lt r h.o_head) hgr).trans h.head
  have hvr : v'.ownBlock ≠ some r := row_not r1 hr5 (by decide)
  refine ⟨hr5, fun b => G b ∨ v'.ownBlock = some b, ⟨putB_same (blk_lt hr5) _, row_keep h.orow fun g hg => ?_, row_keep r1 fun g hg => putB_other (fun e => hvr (by rw [← e]; exact hg)) _, .inl h.o_head, fun b hb => .inl (h.o_o b hb), fun b hb => .inr hb, fun b hb => ?_⟩, fun b hb => ?_, ?_⟩
  · rw [putB_other (fun e => hor (by rw [← e]; exact hg))]
    exact r2.old g (row_lt h.orow hg) (row_ne h.orow h.grow (by decide) hg)
  · rw [size_putB]
    rcases hb with hb | hb
    · have := h.lt b hb; have := r2.size; omega
    · exact row_lt r1 hb
  · rcases hb with hb | hb
    · exact .inl hb
    · exact (r3 b hb).imp (h.o_g b) id
  · exact Upd.putB (F := G) (r2.mono fun c hc => h.o_g c hc) (.inr h.o_head) _

/-- How a round of Give finds things. -/
def RGiveI (G : Nat → Prop) (w : World) (r : Nat) (S : Nat → RP) (L : Nat → List Int) (M : Nat → Int) (many : Nat) (k : Nat) (u v y : Value) (w' : World) : Prop :=
  ∃ (j : Nat) (G' : Nat → Prop) (ov gv : Value), j ≤ many ∧ k = many - j ∧ u = .int .i64 (M j) ∧ y = .int .i64 j ∧ RefRaw G' w' r (S j) ov gv ∧
    w'.ownsRow 0 3 1 v j (nums (L j)) ∧ (∀ b, v.ownBlock = some b → w.heap.size ≤ b ∧ ¬ G' b) ∧ Mv G G' w w'
def RGiveM (G : Nat → Prop) (w : World) (r : Nat) (S' : RP) (v : Value) (n : Nat) (xs : List Value) (tb : Nat) (o : Ob) (w' : World) : Prop :=
  ∃ (G' : Nat → Prop) (ov gv : Value), RefRaw G' w' r S' ov gv ∧ w'.ownsRow 0 3 1 v n xs ∧ (∀ b, v.ownBlock = some b → w.heap.size ≤ b ∧ ¬ G' b) ∧ Mv G G' w w' ∧ w'.heap[tb]? = some (.cells (obCells o).toArray 84 (0, 0))

/-- How a round finds the mark. -/
def UpI (q0 f0 n : Int) (w4 : World) (m : Nat) (v : Value) (w' : World) : Prop := ∃ q : Int, v = .int .i64 q ∧ w4 = w' ∧ q0 ≤ q ∧ q ≤ f0 ∧ upTo q n = f0 ∧ m = (f0 - q).toNat
/-- How the mark goes up to a multiple. -/
theorem up_step {q n : Int} (hn : 0 < n) (h : q % n ≠ 0) : upTo (q + 1) n = upTo q n := by
  unfold upTo
  congr 1
  have h1 := Int.emod_add_mul_ediv q n
  have h2 := Int.emod_nonneg q (b := n) (by omega)
  have h3 := Int.emod_lt_of_pos q hn
  have e1 : (q + n - 1) / n = q / n + 1 := by
    rw [show q + n - 1 = (q % n - 1) + n * (q / n + 1) by rw [Int.mul_add, Int.mul_one]; omega, Int.add_mul_ediv_left _ _ (by omega), Int.ediv_eq_zero_of_lt (by omega) (by omega)]
    omega
  have e2 : (q + 1 + n - 1) / n = q / n + 1 := by
    rw [show q + 1 + n - 1 = (q % n) + n * (q / n + 1) by rw [Int.mul_add, Int.mul_one]; omega, Int.add_mul_ediv_left _ _ (by omega), Int.ediv_eq_zero_of_lt (by omega) (by omega)]
    omega
  rw [e1, e2]
theorem up_done {q n : Int} (hn : 0 < n) (h : q % n = 0) : upTo q n = q := by
  unfold upTo
  have h1 := Int.emod_add_mul_ediv q n
  rw [show q + n - 1 = (n - 1) + n * (q / n) by omega, Int.add_mul_ediv_left _ _ (by omega), Int.ediv_eq_zero_of_lt (by omega) (by omega), Int.zero_add, Int.mul_comm]
  omega

theorem set_map {L : List Rg} {i : Nat} {g : Rg} (hn : (L.map (·.num)).Nodup) (hi : L[i]? = some g) (m : Int) : L.map (fun k => if k.num = g.num then (⟨g.num, m⟩ : Rg) else k) = L.modify i fun k => ⟨k.num, m⟩ := by
  apply List.ext_getElem?
  intro j
  rw [List.getElem?_map, List.getElem?_modify]
  cases hj : L[j]? with
  | none => simp
  | some k =>
    by_cases e : i = j
    · subst e
      rw [hi] at hj
      obtain rfl : g = k := by simpa using hj
      simp
    · have hne : k.num ≠ g.num := fun e2 => e (by
        have h1 : (L.map (·.num))[i]? = some g.num := by rw [List.getElem?_map, hi]; rfl
        have h2 : (L.map (·.num))[j]? = some g.num := by rw [List.getElem?_map, hj, ← e2]; rfl
        obtain ⟨a1, a2⟩ := List.getElem?_eq_some_iff.1 h1
        obtain ⟨c1, c2⟩ := List.getElem?_eq_some_iff.1 h2
        have hp := List.pairwise_iff_getElem.1 hn
        rcases Nat.lt_trichotomy i j with hh | hh | hh
        · exact absurd (a2.trans c2.symm) (hp i j a1 c1 hh)
        · exact hh
        · exact absurd (c2.trans a2.symm) (hp j i c1 a1 hh))
      simp [e, hne]

set_option maxHeartbeats 1000000 in
set_option maxRecDepth 100000 in
theorem RGive_calls (h : RefAt G w r R ov gv) (num kind order many : Int) :
    Calls Try.prog 88 #[.pointer (some ⟨r, 0, none⟩), .int .i64 num, .int .i64 kind, .int .i64 order, .int .i64 many] w fun en w' =>
      ∃ v, en = .returned (.tuple #[v, .int .i64 (R.give num kind order many).1.2]) ∧
        PNext G w w' (Sep (RefH r (R.give num kind order many).2) (Row 3 1 v (R.give num kind order many).1.1.length (nums (R.give num kind order many).1.1))) := by
  apply vk88
  unfold vc88
  by_cases a1 : kind < 1
  · rw [give1 R num kind order many (.inl a1)]
    simp [a1]
    exact h.stays0 (Upd.refl _ _)
  by_cases a2 : 8 < kind
  · rw [give1 R num kind order many (.inr a2)]
    simp [a1, a2]
    exact h.stays0 (Upd.refl _ _)
  by_cases b1 : order < 0
  · rw [give2 R num kind order many (by omega) (.inl b1)]
    simp [a1, a2, b1]
    exact h.stays0 (Upd.refl _ _)
  by_cases b2 : 8 < order
  · rw [give2 R num kind order many (by omega) (by omega)]
    simp [a1, a2, b1, b2]
    exact h.stays0 (Upd.refl _ _)
  by_cases b3 : kind ≠ 1 ∧ order ≠ 0
  · rw [give2 R num kind order many (by omega) (by omega)]
    have c1 : (kind != 1) = true := by simpa using b3.1
    have c2 : (order != 0) = true := by simpa using b3.2
    simp [a1, a2, b1, b2, c1, c2]
    exact h.stays0 (Upd.refl _ _)
  have hcase : (kind != 1) = false ∨ ((kind != 1) = true ∧ (order != 0) = false) := by
    by_cases e : kind = 1
    · left; simp [e]
    · right; exact ⟨by simpa using e, by simp; omega⟩
  by_cases b4 : many < 1
  · rw [give2 R num kind order many (by omega) (by omega)]
    rcases hcase with e | ⟨e, e'⟩
    · simp [a1, a2, b1, b2, e, b4]
      exact h.stays0 (Upd.refl _ _)
    · simp [a1, a2, b1, b2, e, e', b4]
      exact h.stays0 (Upd.refl _ _)
  by_cases b5 : 64 < many
  · rw [give2 R num kind order many (by omega) (by omega)]
    rcases hcase with e | ⟨e, e'⟩
    · simp [a1, a2, b1, b2, e, b4, b5]
      exact h.stays0 (Upd.refl _ _)
    · simp [a1, a2, b1, b2, e, e', b4, b5]
      exact h.stays0 (Upd.refl _ _)
  have e0 : R.give num kind order many = match R.reg num with
    | none => (([], 6), R)
    | some g =>
      if kind = 1 ∧ size num ≤ 2 ^ order.toNat ∨ size num < R.from g order + many * 2 ^ order.toNat then (([], 14), R)
      else (((news (base num + R.from g order) kind order many.toNat).map (·.num), 0),
        (R.puts (news (base num + R.from g order) kind order many.toNat)).setMark num (R.from g order + many * 2 ^ order.toNat)) := by
    unfold RP.give
    rw [if_neg (by omega), if_neg (by omega)]
    rfl
  have hO := O_len h.inv
  have hG := G_len h.inv
  have hrange : 0 ≤ order ∧ order ≤ 8 := by omega
  rcases hcase with e | ⟨e, e'⟩
  have hk : kind = 1 := by simpa using e
  have hk1 : (kind = 1) = True := by simp [hk]
  have hKb : (kind == 1) = true := by simp [hk]
  simp [a1, a2, b1, b2, e, b4, b5]
  rotate_left
  have hk : ¬ kind = 1 := by simpa using e
  have hk1 : (kind = 1) = False := by simp [hk]
  have hKb : (kind == 1) = false := by simpa using hk
  simp [a1, a2, b1, b2, e, e', b4, b5]
  all_goals
    clear hk
    refine callK_of (region_calls h num) ?_
    rintro en w1 ⟨⟨i, hi, rfl⟩, hu1⟩
    refine ⟨_, rfl, ?_⟩
    cases hi with
    | none hr =>
      rw [hr] at e0
      rw [e0]
      simp
      exact h.stays0 hu1
    | some i g hg hr =>
    rw [hr] at e0
    simp only at e0
    obtain ⟨hgm, hgn⟩ := RP.reg_mem hr
    have hgi := h.inv.reg g hgm
    rw [hgn] at hgi
    have hi0 : ¬ (i : Int) < 0 := by omega
    simp [hi0, obV_g]
    refine callK_of (extent_calls ⟨1, num⟩ (fun _ => ⟨hgi.1.1, hgi.1.2.1⟩) w1) ?_
    rintro en w2 ⟨rfl, hu2⟩
    refine ⟨_, rfl, ?_⟩
    obtain ⟨p1, p2⟩ := first_region (o := ⟨1, num⟩) rfl
    simp only [p1, p2]
    have hwo : IntKind.i64.wrap (256 * order) = 256 * order := wr (by omega) (by omega)
    simp [hwo, obV_g]
    refine callK_of (extent_calls ⟨1, 256 * order⟩ (fun _ => ⟨by simp only; omega, by simp only; omega⟩) w2) ?_
    rintro en w3 ⟨rfl, hu3⟩
    refine ⟨_, rfl, ?_⟩
    obtain ⟨p3, p4⟩ := first_region (o := ⟨1, 256 * order⟩) rfl
    have hso : size (256 * order) = 2 ^ order.toNat := by unfold size; rw [Int.mul_ediv_cancel_left _ (by decide)]
    simp only [p3, p4, hso]
    have huw3 := (hu1.trans hu2 fun _ _ f => f.elim).trans hu3 fun _ _ f => f.elim
    have h3 := h.same huw3
    have hhead3 := h3.head
    obtain ⟨hlt, hgi'⟩ := List.getElem?_eq_some_iff.1 hg
    obtain ⟨gg, cap, cs, hv, hgg, _, hc, _⟩ := row_read rg_len h3.grow hlt
    have hc1 := hc 1 (by omega)
    rw [rg1, hgi'] at hc1
    have hsz := size8 hgi.1
    have hord := pow8 hrange.1 hrange.2
    obtain ⟨n, hn⟩ : ∃ n : Int, 2 ^ order.toNat = n := ⟨_, rfl⟩
    rw [hn] at e0 hord ⊢
    have hbase := base_lt num
    have hbase0 := base_nonneg num
    subst hv
    simp [hhead3, hlt, hgg, hc1]
    refine callK_of (lies_calls h3 hr) ?_
    rintro en w4 ⟨rfl, hu4⟩
    refine ⟨_, rfl, ?_⟩
    have huw4 := huw3.trans hu4 fun _ _ f => f.elim
    have h4 := h.same huw4
    have hup := @upTo_le (if R.lies num then g.mark else 0) n (by omega)
    have hfrom : R.from g order = upTo (if R.lies num then g.mark else 0) n := by unfold RP.from; rw [hgn, hn]
    obtain ⟨q0, hq0⟩ : ∃ q0, (if R.lies num then g.mark else 0) = q0 := ⟨_, rfl⟩
    have hq1 : 0 ≤ q0 ∧ q0 ≤ 256 := by rw [← hq0]; split <;> omega
    rw [hq0] at hup hfrom
    obtain ⟨f0, hf0⟩ : ∃ f0, upTo q0 n = f0 := ⟨_, rfl⟩
    rw [hf0] at hup hfrom
    rw [hfrom] at e0
    have hmn : 1 ≤ many * n ∧ many * n ≤ 16384 := by
      have h1 : many * 1 ≤ many * n := Int.mul_le_mul_of_nonneg_left (by omega) (by omega)
      have h2 : many * n ≤ 64 * n := Int.mul_le_mul_of_nonneg_right (by omega) (by omega)
      omega
    have hw4 : IntKind.i64.wrap (many * n) = many * n := wr (by omega) (by omega)
    have hw5 : IntKind.i64.wrap (f0 + many * n) = f0 + many * n := wr (by omega) (by omega)
    have hn0 : n ≠ 0 := by omega
    refine joinK1 (fun v w' => v = .int .i64 q0 ∧ w4 = w') ?_ ?_
    · cases hl : R.lies num with
      | true =>
        rw [hl, if_pos rfl] at hq0
        simp [hq0]
      | false =>
        rw [hl, if_neg (by simp)] at hq0
        simp [hq0]
    rintro _ _ ⟨rfl, rfl⟩
    refine loopK1 (UpI q0 f0 n w4) (f0 - q0).toNat ⟨q0, rfl, rfl, by omega, by omega, hf0, rfl⟩ ?_
    rintro mm v w5 ⟨q, rfl, rfl, hqa, hqb, hqc, rfl⟩
    rw [opK_int_rem _ _ _ _ _ hn0, Int.tmod_eq_emod_of_nonneg (by omega)]
    obtain ⟨rm, hrm⟩ : ∃ rm, q % n = rm := ⟨_, rfl⟩
    rw [hrm]
    by_cases hz : ¬ rm = 0
    · have hz' : (rm != 0) = true := by simpa using hz
      have hst := up_step (q := q) (n := n) (by omega) (by rw [hrm]; exact hz)
      have hle := (@upTo_le (q + 1) n (by omega)).1
      rw [hst, hqc] at hle
      have hwq : IntKind.i64.wrap (q + 1) = q + 1 := wr (by omega) (by omega)
      simp [hz', hwq]
      exact ⟨_, by omega, q + 1, rfl, rfl, by omega, by omega, by rw [hst]; exact hqc, rfl⟩
    obtain rfl : rm = 0 := by omega
    obtain rfl : q = f0 := by rw [← hqc]; exact (up_done (by omega) hrm).symm
    by_cases cy : kind = 1 ∧ size num ≤ n
    · rw [if_pos (.inl cy)] at e0
      rw [e0]
      have c1 := cy.2
      first
      | exact absurd cy.1 (by rw [hk1]; exact id)
      | simp [hKb, hk1, c1]; exact h.stays0 huw4
    have hc1 : kind = 1 → ¬ size num ≤ n := fun hh hh2 => cy ⟨hh, hh2⟩
    by_cases c2 : size num < q + many * n
    · rw [if_pos (.inr c2)] at e0
      rw [e0]
      first
      | simp [hKb, hk1, hc1 (by rw [hk1]; trivial), hw4, hw5, c2]
      | simp [hKb, hk1, hw4, hw5, c2]
      exact h.stays0 huw4
    rw [if_neg (by rintro (hh | hh); exact cy hh; exact c2 hh)] at e0
    rw [e0]
    first
    | simp [hKb, hk1, hc1 (by rw [hk1]; trivial), hw4, hw5, c2]
    | simp [hKb, hk1, hw4, hw5, c2]
    have hmany : (many.toNat : Int) = many := by omega
    have ok : GiveOk R g kind order many.toNat := ⟨hgm, by omega, by omega, by omega, by omega, fun hk => by rw [hgn, hn]; have := hc1 hk; omega, by rw [hgn, hn, hmany, hfrom]; omega⟩
    have ok2 := fun j => ok.chain h.inv j
    have ok4 := fun {j : Nat} (hj : j < many.toNat) => ok.at h.inv hj
    have ok5 := fun {j : Nat} (hj : j < many.toNat) => ok.bound h.inv hj
    rw [hgn, hn, hfrom] at ok2 ok4
    rw [hn] at ok5
    obtain ⟨b0, hb0⟩ : ∃ b0, base num + q = b0 := ⟨_, rfl⟩
    rw [hb0] at ok2 ok4 ⊢
    obtain ⟨S, hS⟩ : ∃ S : Nat → RP, ∀ j, S j = R.puts (news b0 kind order j) := ⟨_, fun _ => rfl⟩
    have hSn : ∀ j, (S j).n = R.n := fun j => by rw [hS]; exact puts_n R _
    have hS0 : S 0 = R := by rw [hS]; rfl
    have hS1 : ∀ j, S (j + 1) = (S j).put1 (new1 b0 kind order j) := fun j => by rw [hS, hS, news_succ, puts_snoc]
    have hmk : ∀ j : Nat, q + ((j + 1 : Nat) : Int) * n = q + j * n + n := fun j => by rw [Int.natCast_add, Int.add_mul]; simp; omega
    have hlO : ∀ j, (S j).O.length ≤ R.O.length + j := fun j => by
      induction j with
      | zero => rw [hS0]; omega
      | succ j ih => rw [hS1]; unfold RP.put1; split <;> simp <;> omega
    have hlG : ∀ j, (S j).G.length ≤ R.G.length + j := fun j => by
      induction j with
      | zero => rw [hS0]; omega
      | succ j ih => rw [hS1]; unfold RP.put1; split <;> simp <;> omega
    have hGi : ∀ j, (S j).G[i]? = some g := fun j => by
      induction j with
      | zero => rw [hS0]; exact hg
      | succ j ih =>
        rw [hS1]; unfold RP.put1; split
        · obtain ⟨hh, _⟩ := List.getElem?_eq_some_iff.1 ih
          simp only
          rw [List.getElem?_append_left hh]; exact ih
        · exact ih
    obtain ⟨inf, hi1, hi2, hi3, hi4⟩ := int_info
    refine loopK3 (RGiveI G w r S (fun j => (news b0 kind order j).map (·.num)) (fun j => q + j * n) many.toNat) many.toNat
      ⟨0, G, ov, _, by omega, by omega, by simp, rfl, by rw [hS0]; exact h4.raw, World.ownsRow_nil w4 0 _ 1, fun b hb => by simp [Value.ownBlock] at hb, Mv.only huw4⟩ ?_
    rintro kk u v y w6 ⟨j, G2, ov2, gv2, hj, rfl, rfl, rfl, H, hrow, hvo, hmv⟩
    replace hrow : w6.ownsRow 0 3 1 v j (nums ((news b0 kind order j).map (·.num))) := hrow
    have hhd2 := H.head
    rw [hSn] at hhd2
    by_cases hlt : j < many.toNat
    · have hlt' : (j : Int) < many := by omega
      obtain ⟨o1, o2, o3, o4⟩ := ok4 hlt
      have hbd := ok5 hlt
      rw [hmany] at hbd
      have hjn : (0 : Int) ≤ j * n := Int.mul_nonneg (by omega) (by omega)
      have hwa : IntKind.i64.wrap (base num + (q + j * n)) = b0 + j * n := by rw [wr (by omega) (by omega)]; omega
      obtain ⟨o, ho⟩ : ∃ o, new1 b0 kind order j = o := ⟨_, rfl⟩
      have hSj := hS1 j
      rw [ho] at o1 o2 o3 o4 hSj
      have hO2 := hlO j
      have hG2 := hlG j
      simp [hlt', hwa, b84]
      refine var84 ⟨kind, b0 + j * n⟩ ?_
      intro W hu3 f3 s3
      have hhd3 := (hu3.old _ (blk_lt hhd2) fun f => f).trans hhd2
      have lx := blk_lt hhd2
      refine joinK0 (RGiveM G w r (S (j + 1)) v j (nums ((news b0 kind order j).map (·.num))) w6.heap.size o) ?_ ?_
      · by_cases hk : kind = 1
        · first
          | exact absurd hk (by rw [hk1]; exact id)
          | subst hk
            have hok : o.kind = 1 := by rw [← ho]; rfl
            have hon : o.num = b0 + j * n + 256 * order := by rw [← ho]; unfold new1; simp [hn]
            have hwo2 : IntKind.i64.wrap (b0 + j * n + 256 * order) = o.num := by rw [wr (by omega) (by omega), hon]
            refine add84 ⟨1, b0 + j * n⟩ _ o.num f3 hwo2 ?_
            intro W4 f4 hu4' s4
            have k4 : ∀ b, b < w6.heap.size → W4.heap[b]? = W.heap[b]? := fun b hb => hu4'.old b (by omega) (by omega)
            have hu64 : Upd (fun _ => False) w6 W4 := hu3.mine hu4' (by omega)
            have hhd4 := (k4 _ lx).trans hhd3
            have ho' : (⟨1, o.num⟩ : Ob) = o := by obtain ⟨a, b⟩ := o; simp at hok; rw [hok]
            rw [ho'] at f4
            simp [f4, hhd4, sb204]
            rw [bs149]
            obtain ⟨W5, hW5, hu5, f5, s5⟩ := one W4.drew (.cells (rgCells ⟨o.num, 0⟩).toArray 204)
            rw [hW5]
            have hu65 := hu64.drew.trans hu5 fun _ _ f => f.elim
            have H5 := H.same hu65
            have hhd5 := H5.head
            rw [hSn] at hhd5
            have f45 := (hu5.old _ (blk_lt f4) fun f => f).trans f4
            simp [f45, hhd5]
            refine app149 H5.grow (by omega) ⟨o.num, 0⟩ f5 ?_
            intro v' w7 r1 r2 r3
            have hput : S (j + 1) = ⟨R.n, (S j).O, (S j).G ++ [⟨o.num, 0⟩]⟩ := by rw [hSj]; unfold RP.put1; rw [if_pos hok, ← hSn j]
            obtain ⟨hr7, G3, H7, hm7⟩ := H5.appG r1 r2 r3
            rw [hSn] at hr7 H7 hm7
            have hrow5 := row_keep hrow (w' := W5) fun g hg => hu65.old g (row_lt hrow hg) fun f => f
            have hgx : ∀ b, v.ownBlock = some b → gv2.ownBlock ≠ some b ∧ b ≠ r := fun b hb => ⟨row_ne hrow5 H5.grow (by decide) hb, fun e => row_not hrow5 hhd5 (by decide) (by rw [← e]; exact hb)⟩
            simp [hr7, row_one r1]
            refine ⟨G3, ov2, v', by rw [hput]; exact H7, row_keep hrow fun g hg => ?_, fun b hb => ?_, (hmv.after hu65).trans hm7, ?_⟩
            · rw [putB_other (hgx g hg).2]
              exact (r2.old g (row_lt hrow5 hg) (hgx g hg).1).trans (hu65.old g (row_lt hrow hg) fun f => f)
            · refine ⟨(hvo b hb).1, fun hb3 => ?_⟩
              have hbl := row_lt hrow5 hb
              rcases hm7.new b hb3 with e | e
              · exact (hvo b hb).2 e
              · omega
            · have htr : w6.heap.size ≠ r := by omega
              rw [putB_other htr]
              refine (r2.old _ (blk_lt f45) fun hc => ?_).trans f45
              have := row_lt H.grow hc
              omega
        · first
          | exact absurd (by rw [hk1]; trivial : kind = 1) hk
          | have hok : o.kind ≠ 1 := by rw [← ho]; exact hk
            have hon : o = ⟨kind, b0 + j * n⟩ := by rw [← ho]; unfold new1; rw [if_neg hk, hn]; simp
            rw [← hon] at f3
            simp [f3, hhd3]
            rw [show Value.agg (obCells o).toArray = obV o from rfl, bs146]
            obtain ⟨W5, hW5, hu5, f5, s5⟩ := one W.drew (.cells (obCells o).toArray 84)
            rw [hW5]
            have hu65 := hu3.drew.trans hu5 fun _ _ f => f.elim
            have H5 := H.same hu65
            have hhd5 := H5.head
            rw [hSn] at hhd5
            have f45 := (hu5.old _ (blk_lt f3) fun f => f).trans f3
            simp [hhd5]
            refine app146 H5.orow (by omega) o f5 ?_
            intro v' w7 r1 r2 r3
            have hput : S (j + 1) = ⟨R.n, (S j).O ++ [o], (S j).G⟩ := by rw [hSj]; unfold RP.put1; rw [if_neg hok, ← hSn j]
            obtain ⟨hr7, G3, H7, hm7⟩ := H5.appO r1 r2 r3
            rw [hSn] at hr7 H7 hm7
            have hrow5 := row_keep hrow (w' := W5) fun g hg => hu65.old g (row_lt hrow hg) fun f => f
            have hgx : ∀ b, v.ownBlock = some b → ov2.ownBlock ≠ some b ∧ b ≠ r := fun b hb => ⟨row_ne hrow5 H5.orow (by decide) hb, fun e => row_not hrow5 hhd5 (by decide) (by rw [← e]; exact hb)⟩
            simp [hr7, row_one r1]
            refine ⟨G3, v', gv2, by rw [hput]; exact H7, row_keep hrow fun g hg => ?_, fun b hb => ?_, (hmv.after hu65).trans hm7, ?_⟩
            · rw [putB_other (hgx g hg).2]
              exact (r2.old g (row_lt hrow5 hg) (hgx g hg).1).trans (hu65.old g (row_lt hrow hg) fun f => f)
            · refine ⟨(hvo b hb).1, fun hb3 => ?_⟩
              have hbl := row_lt hrow5 hb
              rcases hm7.new b hb3 with e | e
              · exact (hvo b hb).2 e
              · omega
            · have htr : w6.heap.size ≠ r := by omega
              rw [putB_other htr]
              refine (r2.old _ (blk_lt f45) fun hc => ?_).trans f45
              have := row_lt H.orow hc
              omega
      · rintro W3 ⟨G3, ov3, gv3, H3, hrow5, hvo5, hmv5, htb5⟩
        simp [htb5]
        have hwj : IntKind.i64.wrap ((j : Int) + 1) = ((j + 1 : Nat) : Int) := by rw [wr (by omega) (by omega)]; rfl
        have hwm : IntKind.i64.wrap (q + j * n + n) = q + ((j + 1 : Nat) : Int) * n := by rw [hmk, wr (by omega) (by omega)]
        rw [bs69']
        have hrow6 : (W3.alloc (.cells #[.int .i64 o.num] 3)).ownsRow 0 3 1 v j (nums ((news b0 kind order j).map (·.num))) := row_keep hrow5 fun g hg => alloc_old (row_lt hrow5 hg) _
        refine opK_append1 Try.underlying69 hi1 hi2 hi3 hi4 rfl (by omega) hrow6 (alloc_new _ _) (m := 1) rfl (by simp) (by simp [maxLen]; omega) (by omega) ?_
        intro v' w5 r1 r2 r3
        rw [hwj, hwm]
        have hs5 : W3.heap.size + 1 ≤ w5.heap.size := by simpa using r2.size
        have kk : ∀ b, b < W3.heap.size → v.ownBlock ≠ some b → w5.heap[b]? = W3.heap[b]? := fun b hb hne => (r2.block b (by simp; omega) (fun e => hne e.symm)).trans (alloc_old hb _)
        refine ⟨many.toNat - (j + 1), by omega, j + 1, G3, ov3, gv3, by omega, rfl, rfl, rfl, H3.frame (fun b hb => kk b (H3.lt b hb) fun e => (hvo5 b e).2 hb) (by omega), ?_, fun b hb => ?_, hmv5.new, ?_⟩
        · show w5.ownsRow 0 3 1 v' (j + 1) (nums ((news b0 kind order (j + 1)).map (·.num)))
          rw [news_succ, ho]
          simpa [nums] using r1
        · rcases r3 b hb with e | e
          · exact hvo5 b e
          · simp at e
            have h1 := hmv5.upd.size
            refine ⟨by omega, fun hb3 => ?_⟩
            have := H3.lt b hb3
            omega
        · refine hmv5.upd.trans (((Upd.refl (fun c => v.ownBlock = some c) W3).alloc _).trans (Upd.grown (F := fun c => v.ownBlock = some c) r2 fun c hc => hc) fun _ _ hc => hc) fun c hc hv => ?_
          have := (hvo5 c hv).1
          omega
    · have hjm : j = many.toNat := by omega
      have hlt' : ¬ (j : Int) < many := by omega
      have hinv := ok2 many.toNat (Nat.le_refl _)
      rw [hmany] at hinv
      obtain ⟨hil, hgi2⟩ := List.getElem?_eq_some_iff.1 (hGi j)
      rcases row_open H.grow with ⟨_, h0, _⟩ | ⟨g7, cap7, rest7, hv7, hg7, hcn, hcm, hcs, hcl⟩
      · omega
      have hlen : (news b0 kind order many.toNat).length = j := by rw [hjm]; simp [news]
      have hfl := flat_seta rg_len (fun k : Rg => (⟨k.num, q + many * n⟩ : Rg)) (.int .i64 (q + many * n)) (S j).G rest7 i 1 hil (by omega) rfl
      rw [List.setIfInBounds_toArray] at hfl
      have hjn : (j : Int) * n = many * n := by rw [hjm, hmany]
      have hsz7 : i * 2 + 1 < ((S j).G.flatMap rgCells ++ rest7).length := by rw [List.length_append, hcl]; omega
      have hfin : (R.puts (news b0 kind order many.toNat)).setMark num (q + many * n) = ⟨R.n, (S j).O, (S j).G.modify i fun k => ⟨k.num, q + many * n⟩⟩ := by
        have hgnd := hinv.gnd
        rw [setMark_nums] at hgnd
        have h1 := hGi j
        rw [hS, hjm] at h1
        have h2 := set_map hgnd h1 (q + many * n)
        rw [hgn] at h2
        unfold RP.setMark
        rw [h2, hS, hjm, puts_n]
      rw [hfin] at hinv
      subst hv7
      simp [hlt', hhd2, hil, hg7, hjn]
      rw [hlen, hfin, hfl]
      have hg7r : g7 ≠ r := fun e => by rw [e, hhd2] at hg7; simp at hg7
      refine ⟨by simpa using hsz7, fun b => G2 b ∨ v.ownBlock = some b, ⟨G2, fun b => v.ownBlock = some b, ⟨ov2, _, RefRaw.full ⟨?_, ?_, ?_, H.o_head, H.o_o, H.o_g, fun b hb => by rw [size_putB]; exact H.lt b hb⟩ hinv⟩,
        ⟨row_keep (by rw [← hjm]; exact hrow) fun g hg => putB_other (fun e => (hvo g hg).2 (H.o_g g (by rw [e]; rfl))) _, fun _ => Iff.rfl⟩, fun b hb hv => (hvo b hv).2 hb, fun _ => Iff.rfl⟩, fun b hb => ?_, ?_⟩
      · rw [putB_other hg7r.symm]; exact hhd2
      · exact row_keep H.orow fun g hg => putB_other (fun e => row_ne H.orow H.grow (by decide) hg (by rw [e]; rfl)) _
      · have hml : ((S j).G.modify i fun k => (⟨k.num, q + many * n⟩ : Rg)).length = (S j).G.length := by simp
        rw [hml]
        refine row_shut (rest := rest7) (putB_same (blk_lt hg7) _) hcn hcm ?_ (by rw [flat_len rg_len, hml])
        rw [List.length_append, flat_len rg_len, hml]; rw [List.length_append, hcl] at hcs; exact hcs
      · rcases hb with hb | hb
        · exact hmv.new b hb
        · exact .inr (hvo b hb).1
      · have hg7G : w.heap.size ≤ g7 ∨ G g7 := (hmv.new g7 (H.o_g g7 rfl)).elim .inr .inl
        exact Upd.putB hmv.upd hg7G _
end
end Go.Proofs.Ytaniphdbebdhhaa.Pool
