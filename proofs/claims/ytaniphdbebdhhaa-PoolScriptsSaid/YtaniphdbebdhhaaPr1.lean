/-
  Pages and untypeds: the document's pool in memory; contracts of its extent, meets, region, lies, Empty, Mark, At. No condition beyond what each theorem names.
-/
import Derived.Test.YtaniphdbebdhhaaPm8
namespace Go.Proofs.Ytaniphdbebdhhaa.Pool
open Go.Vk Vk.Pool

structure RefAt (G : Nat → Prop) (w : World) (r : Nat) (R : RP) (ov gv : Value) : Prop where
  head : w.heap[r]? = some (.cells #[.int .i64 R.n, ov, gv] 151 (0, 0))
  orow : w.ownsRow 0 84 2 ov R.O.length (R.O.flatMap obCells)
  grow : w.ownsRow 0 204 2 gv R.G.length (R.G.flatMap rgCells)
  inv : Inv R
  o_head : G r
  o_o : ∀ b, ov.ownBlock = some b → G b
  o_g : ∀ b, gv.ownBlock = some b → G b
  lt : ∀ b, G b → b < w.heap.size
def RefH (r : Nat) (R : RP) : HP := fun G w => ∃ ov gv, RefAt G w r R ov gv

theorem row_slice {w : World} {e z n : Nat} {v : Value} {xs : List Value} (h : w.ownsRow 0 e z v n xs) : ∃ a c, v = .slice a n c := by
  rcases row_open h with ⟨rfl, rfl, _⟩ | ⟨g, cap, rest, rfl, _⟩
  · exact ⟨_, _, rfl⟩
  · exact ⟨_, _, rfl⟩
/-- An element of a row of records. -/
theorem row_read {α : Type} {f : α → List Value} {w : World} {e z : Nat} {v : Value} {L : List α} (hz : ∀ a, (f a).length = z) (h : w.ownsRow 0 e z v L.length (L.flatMap f)) {i : Nat} (hi : i < L.length) :
    ∃ g cap cs, v = .slice (some ⟨g, 0, none⟩) L.length cap ∧ w.heap[g]? = some (.cells cs e (0, 0)) ∧ readN cs (i * z) z = some (f L[i]) ∧ (∀ j, j < z → cs[i * z + j]? = (f L[i])[j]?) ∧ ∃ rest, cs = (L.flatMap f ++ rest).toArray := by
  rcases row_open h with ⟨rfl, h0, _⟩ | ⟨g, cap, rest, rfl, hg, _⟩
  · omega
  · exact ⟨g, cap, _, rfl, hg, flat_read hz L rest i hi, fun j hj => flat_geta hz L rest i j hi hj, rest, rfl⟩
@[simp] theorem rg0 (g : Rg) : (rgCells g)[0]? = some (.int .i64 g.num) := rfl
@[simp] theorem rg1 (g : Rg) : (rgCells g)[1]? = some (.int .i64 g.mark) := rfl

/-- A scan of a list: of those behind nothing was met. -/
def ScanL {α : Type} (w : World) (L : List α) (p : α → Bool) (k : Nat) (u : Value) (w' : World) : Prop :=
  ∃ i : Nat, i ≤ L.length ∧ k = L.length - i ∧ u = .int .i64 i ∧ Upd (fun _ => False) w w' ∧ ∀ j (hj : j < L.length), j < i → p L[j] = false
theorem ScanL.start {α : Type} {w w' : World} (L : List α) (p : α → Bool) (hu : Upd (fun _ => False) w w') : ScanL w L p L.length (.int .i64 0) w' := ⟨0, by omega, rfl, rfl, hu, fun j _ hlt => by omega⟩
theorem ScanL.next {α : Type} {w w' : World} {L : List α} {p : α → Bool} {i : Nat} (hi : i < L.length) (hu : Upd (fun _ => False) w w') (hno : ∀ j (hj : j < L.length), j < i → p L[j] = false) (hp : p L[i] = false) :
    ∃ k', k' < L.length - i ∧ ScanL w L p k' (.int .i64 ((i + 1 : Nat) : Int)) w' :=
  ⟨L.length - (i + 1), by omega, i + 1, by omega, rfl, rfl, hu, fun j hj hji => by
    by_cases e : j = i
    · subst e; exact hp
    · exact hno j hj (by omega)⟩
theorem scan_end {α : Type} {L : List α} {p : α → Bool} (hno : ∀ j (hj : j < L.length), j < L.length → p L[j] = false) : L.any p = false := by
  cases hh : L.any p with
  | false => rfl
  | true =>
    obtain ⟨o, ho, hm⟩ := List.any_eq_true.1 hh
    obtain ⟨j, hj, rfl⟩ := List.getElem_of_mem ho
    rw [hno j hj hj] at hm; cases hm

section
variable {G : Nat → Prop} {w w' : World} {r : Nat} {R : RP} {ov gv : Value}
theorem RefAt.frame (h : RefAt G w r R ov gv) (hf : ∀ b, G b → w'.heap[b]? = w.heap[b]?) (hs : w.heap.size ≤ w'.heap.size) : RefAt G w' r R ov gv :=
  ⟨(hf r h.o_head).trans h.head, row_keep h.orow fun g hg => hf g (h.o_o g hg), row_keep h.grow fun g hg => hf g (h.o_g g hg), h.inv, h.o_head, h.o_o, h.o_g, fun b hb => Nat.lt_of_lt_of_le (h.lt b hb) hs⟩
instance : Solid (RefH r R) where
  frame := fun ⟨a, b, h⟩ hf hs => ⟨a, b, h.frame hf hs⟩
  lt := fun ⟨_, _, h⟩ hb => h.lt _ hb
theorem RefAt.same (h : RefAt G w r R ov gv) (hu : Upd (fun _ => False) w w') : RefAt G w' r R ov gv := h.frame (fun b hb => hu.old b (h.lt b hb) fun f => f) hu.size
theorem RefAt.stays (h : RefAt G w r R ov gv) (hu : Upd (fun _ => False) w w') : PNext G w w' (RefH r R) := ⟨G, ⟨_, _, h.same hu⟩, Mv.only hu⟩

set_option maxRecDepth 100000 in
theorem extent_calls (o : Ob) (h : o.kind = 1 → 0 ≤ o.num ∧ o.num / 256 ≤ 8) (w : World) :
    Calls Try.prog 120 #[obV o] w fun en w' => en = .returned (.tuple #[.int .i64 (first o), .int .i64 (pages o)]) ∧ Upd (fun _ => False) w w' := by
  apply vk120
  unfold vc120
  refine box84 o ?_
  intro W hu f0 hs
  by_cases hk : o.kind = 1
  · obtain ⟨h0, h8⟩ := h hk
    obtain ⟨e1, e2⟩ := first_region hk
    obtain ⟨D, hD⟩ : ∃ D : Nat, o.num / 256 = D := ⟨(o.num / 256).toNat, by omega⟩
    have hdiv : IntKind.i64.wrap (o.num.tdiv 256) = D := by rw [Int.tdiv_eq_ediv_of_nonneg h0, hD]; exact wr (by omega) (by omega)
    have hmod : o.num.tmod 256 = base o.num := Int.tmod_eq_emod_of_nonneg h0
    rw [e1, e2]
    have hsz : size o.num = 2 ^ D := by unfold size; rw [hD]; rfl
    rw [hsz]
    simp [f0, hk]
    refine loopK2 (fun k u v w' => ∃ i : Nat, i ≤ D ∧ k = D - i ∧ u = .int .i64 (2 ^ i) ∧ v = .int .i64 i ∧ w' = W) D ⟨0, by omega, rfl, rfl, rfl, rfl⟩ ?_
    rintro k u v w' ⟨i, hi, rfl, rfl, rfl, rfl⟩
    by_cases hlt : i < D
    · have hp := pow8 (k := (i : Int)) (by omega) (by omega)
      simp only [Int.toNat_natCast] at hp
      have hw1 : IntKind.i64.wrap (2 * 2 ^ i) = 2 ^ (i + 1) := by rw [wr (by omega) (by omega), Int.pow_succ]; omega
      have hw2 : IntKind.i64.wrap ((i : Int) + 1) = ((i + 1 : Nat) : Int) := by rw [wr (by omega) (by omega)]; rfl
      simp [f0, hdiv, hlt, hw1, hw2, -Int.natCast_add]
      exact ⟨_, by omega, i + 1, by omega, rfl, rfl, rfl⟩
    · obtain rfl : i = D := by omega
      simp [f0, hdiv, hmod]
      exact hu
  · obtain ⟨e1, e2⟩ := first_other hk
    rw [e1, e2]
    simp [f0, hk]
    exact hu

theorem meets_calls (a n b m : Int) (h1 : -4611686018427387904 ≤ b + m ∧ b + m ≤ 9223372036854775807) (h2 : -4611686018427387904 ≤ a + n ∧ a + n ≤ 9223372036854775807) (w : World) :
    Calls Try.prog 121 #[.int .i64 a, .int .i64 n, .int .i64 b, .int .i64 m] w fun en w' => en = .returned (.bool (meets a n b m)) ∧ w' = w := by
  apply vk121
  unfold vc121 meets
  have w1 : IntKind.i64.wrap (b + m) = b + m := wr (by omega) (by omega)
  have w2 : IntKind.i64.wrap (a + n) = a + n := wr (by omega) (by omega)
  by_cases c1 : a < b + m
  · simp [w1, w2, c1]
  · simp [w1, c1]

/-- Where an untyped stands in the list. -/
inductive Idx (R : RP) (t : Int) : Int → Prop where
  | none : R.reg t = none → Idx R t (-1)
  | some (i : Nat) (g : Rg) : R.G[i]? = some g → R.reg t = some g → Idx R t i
theorem idx_at {R : RP} (h : Inv R) {t : Int} {g : Rg} {i : Nat} (h1 : R.G[i]? = some g) (h2 : g.num = t) : R.reg t = some g := by
  rw [← h2]; exact RP.reg_of h (List.mem_of_getElem? h1)

set_option maxRecDepth 100000 in
theorem region_calls (h : RefAt G w r R ov gv) (t : Int) :
    Calls Try.prog 122 #[.pointer (some ⟨r, 0, none⟩), .int .i64 t] w fun en w' => (∃ i, Idx R t i ∧ en = .returned (.int .i64 i)) ∧ Upd (fun _ => False) w w' := by
  apply vk122
  unfold vc122
  have hG := G_len h.inv
  refine loopK1 (ScanL w R.G fun g => g.num == t) R.G.length (ScanL.start _ _ (Upd.refl _ _)) ?_
  rintro k u w' ⟨i, hi, rfl, rfl, hu, hno⟩
  have h' := h.same hu
  have hhead := h'.head
  by_cases hlt : i < R.G.length
  · obtain ⟨g, cap, cs, hv, hg, hr, hc, _⟩ := row_read rg_len h'.grow hlt
    have hc0 := hc 0 (by omega)
    rw [rg0] at hc0
    simp only [Nat.add_zero] at hc0
    have hw2 : IntKind.i64.wrap ((i : Int) + 1) = ((i + 1 : Nat) : Int) := by rw [wr (by omega) (by omega)]; rfl
    subst hv
    by_cases he : R.G[i].num = t
    · simp [hhead, hlt, hg, hc0, he]
      have hgi : R.G[i]? = some R.G[i] := by simp [hlt]
      exact ⟨Idx.some i _ hgi (idx_at h.inv hgi he), hu⟩
    · simp [hhead, hlt, hg, hc0, he, hw2, -Int.natCast_add]
      exact ScanL.next hlt hu hno (by simpa using he)
  · obtain ⟨a, c, hv⟩ := row_slice h'.grow
    obtain rfl : i = R.G.length := by omega
    subst hv
    simp [hhead]
    refine ⟨Idx.none ?_, hu⟩
    rw [RP.reg_none]
    intro g hg e
    have := scan_end (L := R.G) (p := fun g => g.num == t) hno
    rw [List.any_eq_false] at this
    exact this g hg (by simpa using e)

theorem obV_g (n : Int) (ty : TypeId) (w : World) (K : Value → World → Prop) : opK Try.prog (.build 84 #[(0, .const (.int .i64 1)), (1, .const (.int .i64 n))]) ty w K = K (obV ⟨1, n⟩) w := b84 ty w K 1 n

set_option maxRecDepth 100000 in
theorem lies_calls (h : RefAt G w r R ov gv) {t : Int} {g : Rg} (hg : R.reg t = some g) :
    Calls Try.prog 123 #[.pointer (some ⟨r, 0, none⟩), .int .i64 t] w fun en w' => en = .returned (.bool (R.lies t)) ∧ Upd (fun _ => False) w w' := by
  obtain ⟨hgm, rfl⟩ := RP.reg_mem hg
  apply vk123
  unfold vc123
  have hok := (h.inv.reg g hgm).1
  have hsz := size8 hok
  have hb := base_lt g.num
  have hb0 := base_nonneg g.num
  rw [obV_g]
  refine callK_of (extent_calls ⟨1, g.num⟩ (fun _ => ⟨hok.1, hok.2.1⟩) w) ?_
  rintro en w1 ⟨rfl, hu1⟩
  refine ⟨_, rfl, ?_⟩
  obtain ⟨e1, e2⟩ := first_region (o := ⟨1, g.num⟩) rfl
  simp only [e1, e2]
  simp
  have hO := O_len h.inv
  have hG := G_len h.inv
  refine loopK1 (ScanL w R.O fun p => meets (base g.num) (size g.num) p.num 1) R.O.length (ScanL.start _ _ hu1) ?_
  rintro k u w2 ⟨i, hi, rfl, rfl, hu2, hno⟩
  have h2 := h.same hu2
  have hhead := h2.head
  by_cases hlt : i < R.O.length
  · obtain ⟨gg, cap, cs, hv, hgg, hr, hc, _⟩ := row_read ob_len h2.orow hlt
    have hw2 : IntKind.i64.wrap ((i : Int) + 1) = ((i + 1 : Nat) : Int) := by rw [wr (by omega) (by omega)]; rfl
    have hob := h.inv.obj _ (List.getElem_mem hlt)
    have hn2 := h.inv.n2
    obtain ⟨o, ho⟩ : ∃ o, R.O[i] = o := ⟨_, rfl⟩
    rw [ho] at hr hob
    have hk : o.kind ≠ 1 := by omega
    obtain ⟨e3, e4⟩ := first_other hk
    subst hv
    simp [hhead, hlt, hgg, hr]
    refine callK_of (extent_calls o (fun hh => absurd hh hk) w2) ?_
    rintro en w3 ⟨rfl, hu3⟩
    refine ⟨_, rfl, ?_⟩
    rw [e3, e4]
    simp
    refine callK_of (meets_calls _ _ _ _ (by omega) (by omega) w3) ?_
    rintro en w4 ⟨rfl, rfl⟩
    refine ⟨_, rfl, ?_⟩
    have hu4 := hu2.trans hu3 fun _ _ f => f.elim
    cases hm : meets (base g.num) (size g.num) o.num 1 with
    | true =>
      have hl : R.lies g.num = true := by
        unfold RP.lies RP.hitO
        rw [List.any_eq_true.2 ⟨o, by rw [← ho]; exact List.getElem_mem hlt, hm⟩]; rfl
      simp [hl]
      exact hu4
    | false =>
      simp [hw2, -Int.natCast_add]
      exact ScanL.next hlt hu4 hno (by rw [ho]; exact hm)
  · obtain ⟨a, c, hv⟩ := row_slice h2.orow
    obtain rfl : i = R.O.length := by omega
    have hOn : R.hitO (base g.num) (size g.num) = false := scan_end (L := R.O) (p := fun p => meets (base g.num) (size g.num) p.num 1) hno
    subst hv
    simp [hhead]
    refine loopK1 (ScanL w R.G fun k => meets (base g.num) (size g.num) (base k.num) (size k.num) && decide (size k.num < size g.num)) R.G.length (ScanL.start _ _ hu2) ?_
    rintro k u w3 ⟨i, hi, rfl, rfl, hu3, hno3⟩
    have h3 := h.same hu3
    have hhead3 := h3.head
    by_cases hlt : i < R.G.length
    · obtain ⟨gg, cap, cs, hv, hgg, hr, hc, _⟩ := row_read rg_len h3.grow hlt
      have hc0 := hc 0 (by omega)
      rw [rg0] at hc0
      simp only [Nat.add_zero] at hc0
      have hw2 : IntKind.i64.wrap ((i : Int) + 1) = ((i + 1 : Nat) : Int) := by rw [wr (by omega) (by omega)]; rfl
      have hgi := (h.inv.reg _ (List.getElem_mem hlt)).1
      obtain ⟨q, hq⟩ : ∃ q, R.G[i] = q := ⟨_, rfl⟩
      rw [hq] at hc0 hgi
      have hs2 := size8 hgi
      have hb2 := base_lt q.num
      have hb20 := base_nonneg q.num
      subst hv
      simp [hhead3, hlt, hgg, hc0, obV_g]
      refine callK_of (extent_calls ⟨1, q.num⟩ (fun _ => ⟨hgi.1, hgi.2.1⟩) w3) ?_
      rintro en w4 ⟨rfl, hu4⟩
      refine ⟨_, rfl, ?_⟩
      obtain ⟨e3, e4⟩ := first_region (o := ⟨1, q.num⟩) rfl
      simp only [e3, e4]
      simp
      refine callK_of (meets_calls _ _ _ _ (by omega) (by omega) w4) ?_
      rintro en w5 ⟨rfl, rfl⟩
      refine ⟨_, rfl, ?_⟩
      have hu5 := hu3.trans hu4 fun _ _ f => f.elim
      cases hm : meets (base g.num) (size g.num) (base q.num) (size q.num) && decide (size q.num < size g.num) with
      | true =>
        have hl : R.lies g.num = true := by
          unfold RP.lies RP.lieG
          rw [List.any_eq_true.2 ⟨q, by rw [← hq]; exact List.getElem_mem hlt, hm⟩, Bool.or_true]
        rw [Bool.and_eq_true, decide_eq_true_eq] at hm
        simp [hl, hm.1, hm.2]
        exact hu5
      | false =>
        cases hm1 : meets (base g.num) (size g.num) (base q.num) (size q.num) with
        | false =>
          simp [hw2, -Int.natCast_add]
          exact ScanL.next hlt hu5 hno3 (by rw [hq]; exact hm)
        | true =>
          have hm' := hm
          rw [hm1, Bool.true_and, decide_eq_false_iff_not] at hm'
          simp [hm', hw2, -Int.natCast_add]
          exact ScanL.next hlt hu5 hno3 (by rw [hq]; exact hm)
    · obtain ⟨a, c, hv⟩ := row_slice h3.grow
      obtain rfl : i = R.G.length := by omega
      have hGn : R.lieG g.num = false := scan_end (L := R.G) (p := fun k => meets (base g.num) (size g.num) (base k.num) (size k.num) && decide (size k.num < size g.num)) hno3
      have hl : R.lies g.num = false := by unfold RP.lies; rw [hOn, hGn]; rfl
      subst hv
      simp [hhead3, hl]
      exact hu3
end
end Go.Proofs.Ytaniphdbebdhhaa.Pool
