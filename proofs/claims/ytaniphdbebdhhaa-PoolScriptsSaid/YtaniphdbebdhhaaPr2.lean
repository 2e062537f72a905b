/-
  Pages and untypeds: contracts of the document's New, Empty, Mark, At, Add. No condition beyond what each theorem names.
-/
import Derived.Test.YtaniphdbebdhhaaPr1
namespace Go.Proofs.Ytaniphdbebdhhaa.Pool
open Go.Vk Vk.Pool

theorem rg_info : ∃ i, Try.prog.info? 204 = some i ∧ i.zero = some (.agg #[.int .i64 0, .int .i64 0]) ∧ i.size = 2 ∧ i.bytes = 16 := by
  have h : (Try.prog.info? 204).map (fun i => (i.zero, i.size, i.bytes)) = some (some (.agg #[.int .i64 0, .int .i64 0]), 2, 16) := by kernel_rfl
  cases hi : Try.prog.info? 204 with
  | none => rw [hi] at h; cases h
  | some i => rw [hi] at h; simp at h; exact ⟨i, rfl, h.1, h.2.1, h.2.2⟩
theorem rg_one (g : Rg) : (rgCells g).all Value.oneCell' = true := rfl
theorem row_one {w : World} {e z n : Nat} {v : Value} {xs : List Value} (h : w.ownsRow 0 e z v n xs) : v.oneCell' = true := by
  obtain ⟨a, c, rfl⟩ := row_slice h
  rfl
theorem row_ne {w : World} {e e2 z z2 n n2 : Nat} {v v2 : Value} {xs xs2 : List Value} (h : w.ownsRow 0 e z v n xs) (h2 : w.ownsRow 0 e2 z2 v2 n2 xs2) (hne : e ≠ e2) {b : Nat} (hb : v.ownBlock = some b) : v2.ownBlock ≠ some b := by
  intro hb2
  rcases row_open h2 with ⟨rfl, _⟩ | ⟨g2, cap2, rest2, rfl, hg2, _⟩
  · simp [Value.ownBlock] at hb2
  obtain rfl : g2 = b := by simpa [Value.ownBlock] using hb2
  exact row_not h hg2 hne hb
/-- append(l, one thing that lies there). -/
theorem app146 {w : World} {v : Value} {xs : List Ob} (hv : w.ownsRow 0 84 2 v xs.length (xs.flatMap obCells)) (hlen : xs.length < 1000000) (o : Ob) {g : Nat} (hg : w.heap[g]? = some (.cells (obCells o).toArray 84 (0, 0))) {K : Value → World → Prop}
    (h : ∀ v' w', w'.ownsRow 0 84 2 v' (xs ++ [o]).length ((xs ++ [o]).flatMap obCells) → Upd (fun c => v.ownBlock = some c) w w' → (∀ b, v'.ownBlock = some b → v.ownBlock = some b ∨ w.heap.size ≤ b) → K v' w') :
    opK Try.prog (.call ⟨.builtin .append, #[.const v, .const (.slice (some ⟨g, 0, none⟩) 1 1)], #[146, 146]⟩) 146 w K := by
  obtain ⟨inf, hi1, hi2, hi3, hi4⟩ := ob_info
  refine opK_append1 Try.underlying146 hi1 hi2 hi3 hi4 rfl (by omega) hv hg (m := 1) rfl (fun u hu => List.all_eq_true.1 (ob_one o) u (by simpa using hu)) (by simp [maxLen]; omega) (by omega) ?_
  intro v' w5 r1 r2 r3
  exact h v' w5 (by simpa using r1) (Upd.grown (F := fun c => v.ownBlock = some c) r2 fun c hc => hc) r3
theorem app149 {w : World} {v : Value} {xs : List Rg} (hv : w.ownsRow 0 204 2 v xs.length (xs.flatMap rgCells)) (hlen : xs.length < 1000000) (o : Rg) {g : Nat} (hg : w.heap[g]? = some (.cells (rgCells o).toArray 204 (0, 0))) {K : Value → World → Prop}
    (h : ∀ v' w', w'.ownsRow 0 204 2 v' (xs ++ [o]).length ((xs ++ [o]).flatMap rgCells) → Upd (fun c => v.ownBlock = some c) w w' → (∀ b, v'.ownBlock = some b → v.ownBlock = some b ∨ w.heap.size ≤ b) → K v' w') :
    opK Try.prog (.call ⟨.builtin .append, #[.const v, .const (.slice (some ⟨g, 0, none⟩) 1 1)], #[149, 149]⟩) 149 w K := by
  obtain ⟨inf, hi1, hi2, hi3, hi4⟩ := rg_info
  refine opK_append1 Try.underlying149 hi1 hi2 hi3 hi4 rfl (by omega) hv hg (m := 1) rfl (fun u hu => List.all_eq_true.1 (rg_one o) u (by simpa using hu)) (by simp [maxLen]; omega) (by omega) ?_
  intro v' w5 r1 r2 r3
  exact h v' w5 (by simpa using r1) (Upd.grown (F := fun c => v.ownBlock = some c) r2 fun c hc => hc) r3

theorem b151 (n : Int) (ty : TypeId) (w : World) (K : Value → World → Prop) : opK Try.prog (.build 151 #[(0, .const (.int .i64 n))]) ty w K = K (.agg #[.int .i64 n, .slice none 0 0, .slice none 0 0]) w := opK_of (by kernel_rfl) rfl
set_option maxRecDepth 100000 in
theorem NewPool_calls (n : Int) (w : World) :
    Calls Try.prog 26 #[.int .i64 n] w fun en w' => match RP.new n with
      | none => en = .returned (.tuple #[.pointer none, .int .i64 1]) ∧ Upd (fun _ => False) w w'
      | some R => ∃ x G', en = .returned (.tuple #[.pointer (some ⟨x, 0, none⟩), .int .i64 0]) ∧ RefH x R G' w' ∧ Mv (fun _ => False) G' w w' := by
  apply vk26
  unfold vc26 RP.new
  by_cases h1 : n < 1
  · simp [h1]; exact Upd.refl _ _
  · by_cases h2 : 256 < n
    · simp [h1, h2]; exact Upd.refl _ _
    · simp [h1, h2, b151]
      obtain ⟨W1, hW1, hu1, f1, s1⟩ := one w (.cells (Value.agg #[.int .i64 n, .slice none 0 0, .slice none 0 0]).cells 151)
      rw [hW1]
      have hinv : Inv ⟨n, [], []⟩ := ⟨by simp; omega, by simp; omega, by simp, by simp, by simp, by simp, by simp, by simp⟩
      refine ⟨fun b => b = w.heap.size, ⟨_, _, f1, World.ownsRow_nil _ 0 _ 2, World.ownsRow_nil _ 0 _ 2, hinv, rfl, fun b hb => by simp [Value.ownBlock] at hb, fun b hb => by simp [Value.ownBlock] at hb, fun b hb => by omega⟩, fun b hb => .inr (by omega), hu1⟩

section
variable {G : Nat → Prop} {w w' : World} {r : Nat} {R : RP} {ov gv : Value}

set_option maxRecDepth 100000 in
theorem REmpty_calls (h : RefAt G w r R ov gv) (t : Int) :
    Calls Try.prog 84 #[.pointer (some ⟨r, 0, none⟩), .int .i64 t] w fun en w' => en = .returned (.tuple #[.bool (R.empty t).1, .int .i64 (R.empty t).2]) ∧ Upd (fun _ => False) w w' := by
  apply vk84
  unfold vc84 RP.empty
  refine callK_of (region_calls h t) ?_
  rintro en w2 ⟨⟨i, hi, rfl⟩, hu⟩
  refine ⟨_, rfl, ?_⟩
  cases hi with
  | none hr => simp [hr, hu]
  | some i g hg hr =>
    have hi0 : ¬ (i : Int) < 0 := by omega
    simp [hr, hi0]
    refine callK_of (lies_calls (h.same hu) hr) ?_
    rintro en w3 ⟨rfl, hu3⟩
    refine ⟨_, rfl, ?_⟩
    simp
    exact hu.trans hu3 fun _ _ f => f.elim

set_option maxRecDepth 100000 in
theorem RMark_calls (h : RefAt G w r R ov gv) (t : Int) :
    Calls Try.prog 85 #[.pointer (some ⟨r, 0, none⟩), .int .i64 t] w fun en w' => en = .returned (.tuple #[.int .i64 (R.mark t).1, .int .i64 (R.mark t).2]) ∧ Upd (fun _ => False) w w' := by
  apply vk85
  unfold vc85 RP.mark
  refine callK_of (region_calls h t) ?_
  rintro en w2 ⟨⟨i, hi, rfl⟩, hu⟩
  refine ⟨_, rfl, ?_⟩
  cases hi with
  | none hr => simp [hr, hu]
  | some i g hg hr =>
    have hi0 : ¬ (i : Int) < 0 := by omega
    have h2 := h.same hu
    have hhead := h2.head
    obtain ⟨hlt, hgi⟩ := List.getElem?_eq_some_iff.1 hg
    obtain ⟨gg, cap, cs, hv, hgg, _, hc, _⟩ := row_read rg_len h2.grow hlt
    have hc1 := hc 1 (by omega)
    rw [rg1, hgi] at hc1
    subst hv
    simp [hr, hi0, hhead, hlt, hgg, hc1, hu]

set_option maxRecDepth 100000 in
theorem RAt_calls (h : RefAt G w r R ov gv) (i : Int) :
    Calls Try.prog 87 #[.pointer (some ⟨r, 0, none⟩), .int .i64 i] w fun en w' => en = .returned (.tuple #[obV (R.atp i).1, .int .i64 (R.atp i).2]) ∧ Upd (fun _ => False) w w' := by
  apply vk87
  unfold vc87 RP.atp
  obtain ⟨W, hW, hu, f0, hs⟩ := one w (.cells zero84 84)
  rw [opK_alloc_84, hW]
  have hA := h.same hu
  have hhead := hA.head
  have hO := O_len h.inv
  by_cases h1 : i < 0
  · simp [h1, b84z]
    exact exit84 f0 z84 ⟨rfl, hu.putB (.inl (Nat.le_refl _)) _⟩
  · by_cases h2 : R.n ≤ i
    · simp [h1, h2, hhead, b84z]
      exact exit84 f0 z84 ⟨rfl, hu.putB (.inl (Nat.le_refl _)) _⟩
    · simp [h1, h2, hhead]
      refine loopK1 (ScanL W R.O fun o => o.num == i) R.O.length (ScanL.start _ _ (Upd.refl _ _)) ?_
      rintro k u w2 ⟨j, hj, rfl, rfl, hu2, hno⟩
      have hA2 := hA.same hu2
      have hhead2 := hA2.head
      have f2 := (hu2.old _ (blk_lt f0) fun f => f).trans f0
      have huw := hu.trans hu2 fun _ _ f => f.elim
      by_cases hlt : j < R.O.length
      · obtain ⟨g, cap, cs, hv, hg, hr, hc, _⟩ := row_read ob_len hA2.orow hlt
        have hc1 := hc 1 (by omega)
        have hwj : IntKind.i64.wrap ((j : Int) + 1) = ((j + 1 : Nat) : Int) := by rw [wr (by omega) (by omega)]; rfl
        obtain ⟨o, ho⟩ : ∃ o, R.O[j] = o := ⟨_, rfl⟩
        rw [ho] at hr hc1
        rw [ob1] at hc1
        subst hv
        by_cases he : o.num = i
        · have hat : R.at i = o := by rw [← he, ← ho]; exact RP.at_of h.inv (List.getElem_mem hlt)
          rw [hat]
          simp [hhead2, hlt, hg, hc1, he, hr]
          refine exit84s f2 z84 ?_
          exact ⟨rfl, huw.putB (.inl (Nat.le_refl _)) _⟩
        · simp [hhead2, hlt, hg, hc1, he, hwj, -Int.natCast_add]
          exact ScanL.next hlt hu2 hno (by rw [ho]; simpa using he)
      · obtain ⟨a, c, hv⟩ := row_slice hA2.orow
        obtain rfl : j = R.O.length := by omega
        have hat : R.at i = ⟨0, 0⟩ := RP.at_none fun o ho e => by
          have := scan_end (L := R.O) (p := fun o => o.num == i) hno
          rw [List.any_eq_false] at this
          exact this o ho (by simpa using e)
        rw [hat]
        subst hv
        simp [hhead2, b84z]
        exact exit84 f2 z84 ⟨rfl, huw.putB (.inl (Nat.le_refl _)) _⟩

/-- Another list of objects. -/
theorem RefAt.appO (h : RefAt G w r R ov gv) {w5 : World} {v' : Value} {O' : List Ob} (r1 : w5.ownsRow 0 84 2 v' O'.length (O'.flatMap obCells)) (r2 : Upd (fun c => ov.ownBlock = some c) w w5) (r3 : ∀ b, v'.ownBlock = some b → ov.ownBlock = some b ∨ w.heap.size ≤ b)
    (hinv : Inv { R with O := O' }) : w5.heap[r]? = some (.cells #[.int .i64 R.n, ov, gv] 151 (0, 0)) ∧ PNext G w (putB w5 r (.cells #[.int .i64 R.n, v', gv] 151)) (RefH r { R with O := O' }) := by
  have hor : ov.ownBlock ≠ some r := row_not h.orow h.head (by decide)
  have hgr : gv.ownBlock ≠ some r := row_not h.grow h.head (by decide)
  have hr5 : w5.heap[r]? = _ := (r2.old r (h.lt r h.o_head) hor).trans h.head
  have hvr : v'.ownBlock ≠ some r := row_not r1 hr5 (by decide)
  refine ⟨hr5, fun b => G b ∨ v'.ownBlock = some b, ⟨v', gv, putB_same (blk_lt hr5) _, row_keep r1 fun g hg => putB_other (fun e => hvr (by rw [← e]; exact hg)) _, row_keep h.grow fun g hg => ?_, hinv, .inl h.o_head, fun b hb => .inr hb, fun b hb => .inl (h.o_g b hb), fun b hb => ?_⟩, fun b hb => ?_, ?_⟩
  · rw [putB_other (fun e => hgr (by rw [← e]; exact hg))]
    exact r2.old g (row_lt h.grow hg) (row_ne h.grow h.orow (by decide) hg)
  · rw [size_putB]
    rcases hb with hb | hb
    · have := h.lt b hb; have := r2.size; omega
    · exact row_lt r1 hb
  · rcases hb with hb | hb
    · exact .inl hb
    · exact (r3 b hb).imp (h.o_o b) id
  · exact Upd.putB (F := G) (r2.mono fun c hc => h.o_o c hc) (.inr h.o_head) _
/-- Another list of untypeds. -/
theorem RefAt.appG (h : RefAt G w r R ov gv) {w5 : World} {v' : Value} {G2 : List Rg} (r1 : w5.ownsRow 0 204 2 v' G2.length (G2.flatMap rgCells)) (r2 : Upd (fun c => gv.ownBlock = some c) w w5) (r3 : ∀ b, v'.ownBlock = some b → gv.ownBlock = some b ∨ w.heap.size ≤ b)
    (hinv : Inv { R with G := G2 }) : w5.heap[r]? = some (.cells #[.int .i64 R.n, ov, gv] 151 (0, 0)) ∧ PNext G w (putB w5 r (.cells #[.int .i64 R.n, ov, v'] 151)) (RefH r { R with G := G2 }) := by
  have hor : ov.ownBlock ≠ some r := row_not h.orow h.head (by decide)
  have hgr : gv.ownBlock ≠ some r := row_not h.grow h.head (by decide)
  have hr5 : w5.heap[r]? = _ := (r2.old r (h.lt r h.o_head) hgr).trans h.head
  have hvr : v'.ownBlock ≠ some r := row_not r1 hr5 (by decide)
  refine ⟨hr5, fun b => G b ∨ v'.ownBlock = some b, ⟨ov, v', putB_same (blk_lt hr5) _, row_keep h.orow fun g hg => ?_, row_keep r1 fun g hg => putB_other (fun e => hvr (by rw [← e]; exact hg)) _, hinv, .inl h.o_head, fun b hb => .inl (h.o_o b hb), fun b hb => .inr hb, fun b hb => ?_⟩, fun b hb => ?_, ?_⟩
  · rw [putB_other (fun e => hor (by rw [← e]; exact hg))]
    exact r2.old g (row_lt h.orow hg) (row_ne h.orow h.grow (by decide) hg)
  · rw [size_putB]
    rcases hb with hb | hb
    · have := h.lt b hb; have := r2.size; omega
    · exact row_lt r1 hb
  · rcases hb with hb | hb
    · exact .inl hb
    · exact (r3 b hb).imp (h.o_g b) id
  · exact Upd.putB (F := G) (r2.mono fun c hc => h.o_g c hc) (.inr h.o_head) _
theorem PNext.before {A : HP} {G : Nat → Prop} {w w' w'' : World} (hu : Upd (fun _ => False) w w') (h : PNext G w' w'' A) : PNext G w w'' A := ⟨h.choose, h.choose_spec.1, Mv.before hu h.choose_spec.2⟩
end
end Go.Proofs.Ytaniphdbebdhhaa.Pool
