/-
  The document's bus: drop, Open, Send, Get, Ring, Hear, Cancel. No condition.
-/
import Derived.Test.YtaniphdbebdhhaaIp7
namespace Go.Proofs.Ytaniphdbebdhhaa.Ipc
open Go.Vk Vk.Ipc

section
variable {α : Type} {f : α → List Value} {z e : Nat} {w : World} {g cap : Nat} {L : List α} {rest : List Value} {fr : Nat × Nat}
theorem news_take (hg : w.heap[g]? = some (.cells (L.flatMap f ++ rest).toArray e fr)) {k : Nat} : ∀ (j : Nat) (u : Value), ((L.take k).flatMap f)[j]? = some u → w.cell? ((⟨g, 0, none⟩ : Addr).add j) = some u := fun j u hu => by
  have hj : j < ((L.take k).flatMap f).length := (List.getElem?_eq_some_iff.1 hu).1
  have hs : L.flatMap f = (L.take k).flatMap f ++ (L.drop k).flatMap f := by rw [← List.flatMap_append, List.take_append_drop]
  rw [add_off, cell_of_blk hg, Nat.zero_add, List.getElem?_toArray, hs, List.append_assoc, List.getElem?_append_left hj]
  exact hu
theorem news_drop (hz : ∀ a, (f a).length = z) (hg : w.heap[g]? = some (.cells (L.flatMap f ++ rest).toArray e fr)) {k : Nat} (hk : k ≤ L.length) (hn : L.length ≤ cap) :
    ∀ (j : Nat) (u : Value), ((L.drop k).flatMap f)[j]? = some u → w.cell? ((⟨g, if cap = k then 0 else k * z, none⟩ : Addr).add j) = some u := fun j u hu => by
  have hj : j < ((L.drop k).flatMap f).length := (List.getElem?_eq_some_iff.1 hu).1
  have hjl : j < (L.length - k) * z := by rw [flat_len hz] at hj; simpa using hj
  have hs : L.flatMap f = (L.take k).flatMap f ++ (L.drop k).flatMap f := by rw [← List.flatMap_append, List.take_append_drop]
  have htl : ((L.take k).flatMap f).length = k * z := by rw [flat_len hz, List.length_take, Nat.min_eq_left hk]
  rw [if_neg (by intro e; rw [show L.length - k = 0 by omega] at hjl; omega), add_off, cell_of_blk hg, List.getElem?_toArray, hs, List.append_assoc, List.getElem?_append_right (by omega), htl, List.getElem?_append_left (by omega), ← hu]
  congr 1
  omega
end

@[simp ↓] theorem stK_or32 {P : Program} (x y : Int) (t u : TypeId) (ty : TypeId) (w : World) (K : Value → Prop) : stK P (.binOp .or t (.const (.int .u32 x)) (.const (.int .u32 y)) u) ty w K = K (.int .u32 (bor32 x y)) := stK_of (run_or32 x y t u ty w) rfl

theorem bs57 (x : RW) (ty : TypeId) (w : World) (K : Value → World → Prop) :
    opK Try.prog (.buildSlice 57 1 #[(0, .const (rwV x))]) ty w K = K (.slice (some ⟨w.heap.size, 0, none⟩) 1 1) (w.alloc (.cells (rwCells x).toArray 197)) := opK_of (by kernel_rfl) rfl
theorem bs56 (x : RP) (ty : TypeId) (w : World) (K : Value → World → Prop) :
    opK Try.prog (.buildSlice 56 1 #[(0, .const (rpV x))]) ty w K = K (.slice (some ⟨w.heap.size, 0, none⟩) 1 1) (w.alloc (.cells (rpCells x).toArray 189)) := opK_of (by kernel_rfl) rfl
theorem b189 (n : Int) (b : Bool) (ty : TypeId) (w : World) (K : Value → World → Prop) :
    opK Try.prog (.build 189 #[(0, .const (.int .i64 n)), (1, .const (.bool b))]) ty w K = K (rpV ⟨n, b, 0⟩) w := opK_of (by kernel_rfl) rfl
theorem b197 (p t h : Int) (ty : TypeId) (w : World) (K : Value → World → Prop) :
    opK Try.prog (.build 197 #[(0, .const (.int .i64 p)), (1, .const (.int .i64 t)), (2, .const (.int .i64 h))]) ty w K = K (rwV ⟨p, t, h, .zero⟩) w := opK_of (by kernel_rfl) rfl
theorem sb197 (p t h : Int) (m : Msg) (ty : TypeId) (w : World) (K : Value → Prop) :
    stK Try.prog (.build 197 #[(0, .const (.int .i64 p)), (1, .const (.int .i64 t)), (2, .const (.int .i64 h)), (3, .const (mV m))]) ty w K = K (rwV ⟨p, t, h, m⟩) := stK_of (by kernel_rfl) rfl

section
variable {own own' : Nat → Option DTag} {w w' w'' : World} {x : Nat} {R R' R'' : RB} {pv wv : Value}

theorem DocNext.drew (h : DocNext own w w' x R) : DocNext own w w'.drew x R := h.upd (Upd.refl _ _).drew
theorem DocNext.var {W W' : World} (hu : Upd (fun _ => False) w W) (hn : DocNext own W W' x R') {b : Nat} (hb : w.heap.size ≤ b) (hbW : b < W.heap.size) (hlt : ∀ c, own c ≠ none → c < w.heap.size) (o : Obj) : DocNext own w (putB W' b o) x R' := by
  obtain ⟨own', h1, h2, h3⟩ := hn
  have hob : own' b = none := by
    cases e : own' b with
    | none => rfl
    | some T =>
      rcases h2 b (by rw [e]; simp) with h4 | h4
      · have := hlt b h4; omega
      · omega
  refine ⟨own', h1.frame (fun c hc => putB_other (fun e => hc (by rw [e, hob])) _) (by simp), fun c hc => (h2 c hc).imp id fun e => Nat.le_trans hu.size e, ?_⟩
  exact ((hu.mono fun _ f => f.elim).trans h3 fun _ _ hh => hh).putB (.inl hb) _
theorem dout_of {W0 W : World} {b : Nat} {o : Out} {cs : Array Value} {Pe : Value → Prop} (hlt : ∀ c, own c ≠ none → c < w.heap.size) (hu : Upd (fun _ => False) w W0) (h0 : W0.heap[b]? = some (.cells cs 66 (0, 0))) (hs : cs.size = 11) (hbw : w.heap.size ≤ b) (hn : DocNext own W0 W x R') (hPe : Pe (outV o)) :
    stn 11 (.pointer (some ⟨b, 0, none⟩)) (outV o) W fun _ w' => resK Try.prog [(.pointer (some ⟨b, 0, none⟩), some 66)] w' fun v w' => Pe v ∧ DocNext own w w' x R' := by
  have hob : own b = none := by
    cases e : own b with
    | none => rfl
    | some T => have := hlt b (by rw [e]; simp); omega
  exact exit66 (hn.keep h0 hob) hs ⟨hPe, hn.var hu hbw (blk_lt h0) hlt _⟩

/-- Another row of those who wait. -/
theorem DocAt.newW (h : DocAt own w x R pv wv) {W' : List RW} {v' : Value} (hx : w'.heap[x]? = some (.cells #[pv, v'] 59 (0, 0))) (hrow : w'.ownsRow 0 197 9 v' W'.length (W'.flatMap rwCells))
    (hold : ∀ b, own b ≠ none → b ≠ x → own b ≠ some .ws → w'.heap[b]? = w.heap[b]?) (hb : ∀ b, v'.ownBlock = some b → own b = some .ws ∨ own b = none) (hs : w.heap.size ≤ w'.heap.size) :
    DocAt (fun b => if v'.ownBlock = some b then some .ws else own b) w' x { R with W := W' } pv v' := by
  have ho : ∀ b T, own b = some T → (if v'.ownBlock = some b then some .ws else own b) = some T := fun b T hT => by
    by_cases e : v'.ownBlock = some b
    · rw [if_pos e]
      rcases hb b e with h1 | h1
      · rw [h1] at hT; exact hT
      · rw [h1] at hT; cases hT
    · rw [if_neg e]; exact hT
  refine ⟨hx, ?_, hrow, ho _ _ h.o_head, fun b hb => ho _ _ (h.o_ps b hb), fun b hb => if_pos hb, fun b hb2 => ?_⟩
  · exact row_keep h.ps fun g hg => hold g (by rw [h.o_ps g hg]; simp) (h.ne (h.o_ps g hg) h.o_head (by simp)) (by rw [h.o_ps g hg]; simp)
  · by_cases e : v'.ownBlock = some b
    · exact row_lt hrow e
    · simp only [if_neg e] at hb2
      exact Nat.lt_of_lt_of_le (h.lt b hb2) hs
theorem DocAt.newP (h : DocAt own w x R pv wv) {P' : List RP} {v' : Value} (hx : w'.heap[x]? = some (.cells #[v', wv] 59 (0, 0))) (hrow : w'.ownsRow 0 189 3 v' P'.length (P'.flatMap rpCells))
    (hold : ∀ b, own b ≠ none → b ≠ x → own b ≠ some .ps → w'.heap[b]? = w.heap[b]?) (hb : ∀ b, v'.ownBlock = some b → own b = some .ps ∨ own b = none) (hs : w.heap.size ≤ w'.heap.size) :
    DocAt (fun b => if v'.ownBlock = some b then some .ps else own b) w' x { R with P := P' } v' wv := by
  have ho : ∀ b T, own b = some T → (if v'.ownBlock = some b then some .ps else own b) = some T := fun b T hT => by
    by_cases e : v'.ownBlock = some b
    · rw [if_pos e]
      rcases hb b e with h1 | h1
      · rw [h1] at hT; exact hT
      · rw [h1] at hT; cases hT
    · rw [if_neg e]; exact hT
  refine ⟨hx, hrow, ?_, ho _ _ h.o_head, fun b hb => if_pos hb, fun b hb => ho _ _ (h.o_ws b hb), fun b hb2 => ?_⟩
  · exact row_keep h.ws fun g hg => hold g (by rw [h.o_ws g hg]; simp) (h.ne (h.o_ws g hg) h.o_head (by simp)) (by rw [h.o_ws g hg]; simp)
  · by_cases e : v'.ownBlock = some b
    · exact row_lt hrow e
    · simp only [if_neg e] at hb2
      exact Nat.lt_of_lt_of_le (h.lt b hb2) hs

/-- Another row, all of it new. -/
theorem DocAt.freshW (h : DocAt own w x R pv wv) {W' : List RW} {v' : Value} {w4 : World} (hrow : w4.ownsRow 0 197 9 v' W'.length (W'.flatMap rwCells)) (hu : Upd (fun b => own b = some .ws) w w4) (hvb : ∀ b, v'.ownBlock = some b → own b = some .ws ∨ w.heap.size ≤ b) :
    DocNext own w (putB w4 x (.cells #[pv, v'] 59 (0, 0))) x { R with W := W' } := by
  have hxl := h.in h.o_head
  have hs := hu.size
  have hne : ∀ b, v'.ownBlock = some b → b ≠ x := fun b hb => by
    rcases hvb b hb with h1 | h1
    · exact h.ne h1 h.o_head (by simp)
    · omega
  refine ⟨_, ⟨_, _, h.newW (v' := v') (W' := W') (putB_same (by omega) _) (row_keep hrow fun g hg => putB_other (hne g hg) _) (fun b hb hbx hbe => ?_) (fun b hb => ?_) (by simpa using hs)⟩, fun b hb => ?_, ?_⟩
  · rw [putB_other hbx]; exact hu.old b (h.lt b hb) hbe
  · exact (hvb b hb).imp id fun h1 => h.new h1
  · by_cases e : v'.ownBlock = some b
    · exact (hvb b e).imp (fun h1 => by rw [h1]; simp) id
    · simp only [if_neg e] at hb; exact .inl hb
  · exact (hu.mono fun b hb => by rw [hb]; simp).putB (.inr (by rw [h.o_head]; simp)) _
theorem DocAt.freshP (h : DocAt own w x R pv wv) {P' : List RP} {v' : Value} {w4 : World} (hrow : w4.ownsRow 0 189 3 v' P'.length (P'.flatMap rpCells)) (hu : Upd (fun b => own b = some .ps) w w4) (hvb : ∀ b, v'.ownBlock = some b → own b = some .ps ∨ w.heap.size ≤ b) :
    DocNext own w (putB w4 x (.cells #[v', wv] 59 (0, 0))) x { R with P := P' } := by
  have hxl := h.in h.o_head
  have hs := hu.size
  have hne : ∀ b, v'.ownBlock = some b → b ≠ x := fun b hb => by
    rcases hvb b hb with h1 | h1
    · exact h.ne h1 h.o_head (by simp)
    · omega
  refine ⟨_, ⟨_, _, h.newP (v' := v') (P' := P') (putB_same (by omega) _) (row_keep hrow fun g hg => putB_other (hne g hg) _) (fun b hb hbx hbe => ?_) (fun b hb => ?_) (by simpa using hs)⟩, fun b hb => ?_, ?_⟩
  · rw [putB_other hbx]; exact hu.old b (h.lt b hb) hbe
  · exact (hvb b hb).imp id fun h1 => h.new h1
  · by_cases e : v'.ownBlock = some b
    · exact (hvb b e).imp (fun h1 => by rw [h1]; simp) id
    · simp only [if_neg e] at hb; exact .inl hb
  · exact (hu.mono fun b hb => by rw [hb]; simp).putB (.inr (by rw [h.o_head]; simp)) _

/-- append(b.W, x), x just made. -/
theorem DocAt.appW (h : DocAt own w x R pv wv) (hbig : R.W.length < 1000000000) {g c : Nat} {a : RW} (hu : Upd (fun _ => False) w w') (hg : w'.heap[g]? = some (.cells (rwCells a).toArray 197 (0, 0))) {ty : TypeId} {K : Value → World → Prop}
    (hK : ∀ v' w4, w4.heap[x]? = some (.cells #[pv, wv] 59 (0, 0)) → v'.oneCell' = true → DocNext own w (putB w4 x (.cells #[pv, v'] 59 (0, 0))) x (R.add a) → K v' w4) :
    opK Try.prog (.call ⟨.builtin .append, #[.const wv, .const (.slice (some ⟨g, 0, none⟩) 1 c)], #[57, 57]⟩) ty w' K := by
  obtain ⟨inf, hi1, hi2, hi3, hi4⟩ := rw_info
  have hA := h.upd hu
  refine opK_append1 (z := 9) Try.underlying57 hi1 hi2 hi3 hi4 (by rfl) (by omega) hA.ws hg (m := 1) (by simp [rw_len]) (fun u hu => (List.all_eq_true.1 (rw_one a)) u (by simpa using hu)) (by simp [maxLen]; omega) (by omega) ?_
  intro v' w4 h1 h2 h3
  have hxl := hA.in hA.o_head
  have hwx : ∀ b, wv.ownBlock = some b → b ≠ x := fun b hb => h.ne (h.o_ws b hb) h.o_head (by simp)
  refine hK v' w4 ((h2.block x hxl fun e => hwx x e.symm rfl).trans hA.head) (row_one h1) ?_
  refine h.freshW (W' := R.W ++ [a]) (v' := v') ?_ ?_ fun b hb => ?_
  · simp only [List.length_append, List.length_singleton, List.flatMap_append, List.flatMap_cons, List.flatMap_nil, List.append_nil]
    simpa using h1
  · exact (hu.mono fun _ f => f.elim).trans (Upd.grown (F := fun b => own b = some .ws) h2 fun k hk => h.o_ws k hk) fun _ _ h => h
  · exact (h3 b hb).imp (h.o_ws b) fun h4 => Nat.le_trans hu.size h4
theorem DocAt.appP (h : DocAt own w x R pv wv) (hbig : R.P.length < 1000000000) {g c : Nat} {a : RP} (hu : Upd (fun _ => False) w w') (hg : w'.heap[g]? = some (.cells (rpCells a).toArray 189 (0, 0))) {ty : TypeId} {K : Value → World → Prop}
    (hK : ∀ v' w4, w4.heap[x]? = some (.cells #[pv, wv] 59 (0, 0)) → v'.oneCell' = true → DocNext own w (putB w4 x (.cells #[v', wv] 59 (0, 0))) x { R with P := R.P ++ [a] } → K v' w4) :
    opK Try.prog (.call ⟨.builtin .append, #[.const pv, .const (.slice (some ⟨g, 0, none⟩) 1 c)], #[56, 56]⟩) ty w' K := by
  obtain ⟨inf, hi1, hi2, hi3, hi4⟩ := rp_info
  have hA := h.upd hu
  refine opK_append1 (z := 3) Try.underlying56 hi1 hi2 hi3 hi4 (by rfl) (by omega) hA.ps hg (m := 1) (by simp [rp_len]) (fun u hu => (List.all_eq_true.1 (rp_one a)) u (by simpa using hu)) (by simp [maxLen]; omega) (by omega) ?_
  intro v' w4 h1 h2 h3
  have hxl := hA.in hA.o_head
  have hwx : ∀ b, pv.ownBlock = some b → b ≠ x := fun b hb => h.ne (h.o_ps b hb) h.o_head (by simp)
  refine hK v' w4 ((h2.block x hxl fun e => hwx x e.symm rfl).trans hA.head) (row_one h1) ?_
  refine h.freshP (P' := R.P ++ [a]) (v' := v') ?_ ?_ fun b hb => ?_
  · simp only [List.length_append, List.length_singleton, List.flatMap_append, List.flatMap_cons, List.flatMap_nil, List.append_nil]
    simpa using h1
  · exact (hu.mono fun _ f => f.elim).trans (Upd.grown (F := fun b => own b = some .ps) h2 fun k hk => h.o_ps k hk) fun _ _ h => h
  · exact (h3 b hb).imp (h.o_ps b) fun h4 => Nat.le_trans hu.size h4

set_option maxRecDepth 100000 in
theorem DOpen (h : DocAt own w x R pv wv) (hb1 : R.P.length < 1000000000) (i : Int) (bell : Bool) :
    Calls Try.prog 60 #[.pointer (some ⟨x, 0, none⟩), .int .i64 i, .bool bell] w fun en w' => en = .returned (.int .i64 (R.opn i bell).1) ∧ DocNext own w w' x (R.opn i bell).2 := by
  apply vk60
  unfold vc60 RB.opn
  by_cases hi : i < 0
  · simp [hi]
    exact h.next
  · simp only [hi, if_false]
    simp [hi]
    refine callK_of (place103 h hb1 i) ?_
    rintro r w2 ⟨rfl, rfl⟩
    refine ⟨_, rfl, ?_⟩
    cases he : R.place i with
    | some k =>
      have h0 : (0 : Int) ≤ k := by omega
      simp [idxI, h0]
      exact h.next
    | none =>
      simp [idxI, h.head, b189, bs56]
      obtain ⟨W, hW, hu, f0, hs⟩ := one w2 (.cells (rpCells ⟨i, bell, 0⟩).toArray 189)
      rw [hW]
      refine h.appP hb1 hu f0 ?_
      intro v' w4 g1 g2 g3
      simp [g1, g2]
      exact g3

set_option maxRecDepth 100000 in
theorem drop111 (h : DocAt own w x R pv wv) (hb2 : R.W.length < 1000000000) {i : Nat} (hi : i < R.W.length) :
    Calls Try.prog 111 #[.pointer (some ⟨x, 0, none⟩), .int .i64 i] w fun en w' => en = .returned (rwV R.W[i]) ∧ DocNext own w w' x (R.drop i) := by
  apply vk111
  unfold vc111
  obtain ⟨inf, hi1, hi2, hi3, hi4⟩ := rw_info
  obtain ⟨g, cap, rest, rfl, hg, hgx, hgo, hnc, hcm, hsz⟩ := h.openW hi
  have rd := flat_read rw_len R.W rest i hi
  have hxl := h.in h.o_head
  have hgl := blk_lt hg
  have hflen := flat_len rw_len R.W
  have hic : (i : Int) ≤ cap := by omega
  -- two new variables
  obtain ⟨W1, hW1, hu1, e0, es1⟩ := one w (.cells zero197 197)
  have hA := h.upd hu1
  have hg1 := (hu1.old g hgl fun f => f).trans hg
  obtain ⟨W2, hW2, hu2, e1, es2⟩ := one W1 (.cells zero197 197)
  have hwz := writeN_full zero197 (rwCells R.W[i]) (by rw [z197]; rfl)
  have rda := readN_full (rwCells R.W[i]) (rw_len _)
  have hu3 := hu2.putB (b := W1.heap.size) (.inl (Nat.le_refl _)) (.cells (rwCells R.W[i]).toArray 197 (0, 0))
  have k1 : (putB W2 W1.heap.size (.cells (rwCells R.W[i]).toArray 197 (0, 0))).heap[W1.heap.size]? = some (.cells (rwCells R.W[i]).toArray 197 (0, 0)) := putB_same (by omega) _
  have k0 : (putB W2 W1.heap.size (.cells (rwCells R.W[i]).toArray 197 (0, 0))).heap[w.heap.size]? = some (.cells zero197 197 (0, 0)) := by
    rw [putB_other (by omega)]; exact (hu2.old _ (by omega) fun f => f).trans e0
  have ks : (putB W2 W1.heap.size (.cells (rwCells R.W[i]).toArray 197 (0, 0))).heap.size = w.heap.size + 2 := by simp; omega
  have hu13 := hu1.trans hu3 fun _ _ f => f
  have hg1' : W1.heap[g]? = some (.cells (R.W.flatMap rwCells ++ rest).toArray 197 (0, 0)) := hg1
  generalize hcs : (R.W.flatMap rwCells ++ rest).toArray = cs at hg1 rd
  simp [hW1, hA.head, hi, hg1, rd, hW2, e1, hwz]
  refine ⟨rw_len _, by rw [z197]; exact Nat.le_refl _, fun u hu => (List.all_eq_true.1 (rw_one _)) u hu, ?_⟩
  generalize putB W2 W1.heap.size (.cells (rwCells R.W[i]).toArray 197 (0, 0)) = W at *
  have hB := h.upd hu13
  have hgW := (hu13.old g hgl fun f => f).trans hg
  simp [hB.head, hic]
  refine opK_appendN (z := 9) Try.underlying57 hi1 hi2 hi3 hi4 (by rfl) (by omega) (World.ownsRow_nil W 0 197 9) (news := (R.W.take i).flatMap rwCells) (news_take hgW) (by rw [flat_len rw_len]; simp; omega) (ones_of rw_one _) (by simp [maxLen]; omega) (by omega) ?_
  intro v3 w3 h1 h2 h3
  have hold3 : ∀ b, b < W.heap.size → w3.heap[b]? = W.heap[b]? := fun b hb => h2.block b hb (by simp [Value.ownBlock])
  have hWs := hu13.size
  have hx3 := (hold3 x (by omega)).trans hB.head
  have hg3 := (hold3 g (by omega)).trans hgW
  have hw1 : IntKind.i64.wrap ((i : Int) + 1) = ((i + 1 : Nat) : Int) := by rw [wrap_i64 (by omega) (by omega)]; rfl
  have hlo : ((i + 1 : Nat) : Int) ≤ R.W.length := by omega
  have hlo0 : (0 : Int) ≤ ((i + 1 : Nat) : Int) := by omega
  simp [hx3, hw1, -Int.natCast_add]
  rw [opK_sl_lo_57 _ _ _ _ _ hlo0 hlo]
  simp only [Int.toNat_natCast]
  refine opK_appendN (z := 9) Try.underlying57 hi1 hi2 hi3 hi4 (by rfl) (by omega) h1 (news := (R.W.drop (i + 1)).flatMap rwCells) (news_drop rw_len hg3 (by omega) hnc) (by rw [flat_len rw_len]; simp) (ones_of rw_one _) (by simp [maxLen]; omega) (by omega) ?_
  intro v4 w4 h4 h5 h6
  have hs3 : W.heap.size ≤ w3.heap.size := h2.size
  have hs4 : w3.heap.size ≤ w4.heap.size := h5.size
  have h3' : ∀ b, v3.ownBlock = some b → W.heap.size ≤ b := fun b hb => by
    rcases h3 b hb with h | h
    · simp [Value.ownBlock] at h
    · exact h
  have h6' : ∀ b, v4.ownBlock = some b → W.heap.size ≤ b := fun b hb => by
    rcases h6 b hb with h | h
    · exact h3' b h
    · omega
  have hold4 : ∀ b, b < W.heap.size → w4.heap[b]? = W.heap[b]? := fun b hb => by
    rw [h5.block b (by omega) (fun e => by have := h3' b e.symm; omega), hold3 b hb]
  have hx4 := (hold4 x (by omega)).trans hB.head
  have hu4 : Upd (fun _ => False) W w4 := ⟨h5.os.trans h2.os, h5.tape.trans h2.tape, h5.output.trans h2.output, by omega, fun b hb _ => hold4 b hb⟩
  have j0 : ∀ o, (putB w4 x o).heap[w.heap.size]? = some (.cells zero197 197 (0, 0)) := fun o => ((putB_other (by omega) _).trans (hold4 _ (by omega))).trans k0
  have j1 : ∀ o, (putB w4 x o).heap[W1.heap.size]? = some (.cells (rwCells R.W[i]).toArray 197 (0, 0)) := fun o => ((putB_other (by omega) _).trans (hold4 _ (by omega))).trans k1
  simp [hx4, row_one h4, j0, j1, rda]
  refine exitO (vs := rwCells R.W[i]) lies197 (j0 _) z197 (rw_len _) (rw_one _) ⟨rfl, ?_⟩
  have hrow : w4.ownsRow 0 197 9 v4 (R.W.take i ++ R.W.drop (i + 1)).length ((R.W.take i ++ R.W.drop (i + 1)).flatMap rwCells) := by
    have hlen : (R.W.take i ++ R.W.drop (i + 1)).length = 0 + i + (R.W.length - (i + 1)) := by simp; omega
    rw [hlen, List.flatMap_append]
    simpa using h4
  have hn := hB.freshW (W' := R.W.take i ++ R.W.drop (i + 1)) (v' := v4) (w4 := w4) hrow (hu4.mono fun _ f => f.elim) (fun b hb => .inr (h6' b hb))
  exact hn.var hu13 (Nat.le_refl _) (by omega) h.lt _

theorem rw_get1 (a : RW) : (rwCells a)[1]? = some (.int .i64 a.th) := rfl
theorem rw_get2 (a : RW) : (rwCells a)[2]? = some (.int .i64 a.how) := rfl
theorem rd_m9 (a : RW) : readN (rwCells a).toArray 3 6 = some (mCells a.m) := rfl
theorem full197 {b : Nat} {o : RW} {w : World} {cs : Array Value} (hb : w.heap[b]? = some (.cells cs 197 (0, 0))) (hs : cs.size = 9) {K : Value → World → Prop} (h : K undef (putB w b (.cells (rwCells o).toArray 197 (0, 0)))) :
    stn 9 (.pointer (some ⟨b, 0, none⟩)) (rwV o) w K := by
  unfold rwV
  simp only [stn_ptr, hb, blkK_cells]
  refine ⟨trivial, rfl, by omega, rfl, ?_⟩
  rw [writeN_full _ _ (by rw [hs]; rfl)]
  exact h

set_option maxRecDepth 100000 in
theorem DSend (h : DocAt own w x R pv wv) (hb1 : R.P.length < 1000000000) (hb2 : R.W.length < 1000000000) (i t how : Int) (m : Msg) :
    Calls Try.prog 63 #[.pointer (some ⟨x, 0, none⟩), .int .i64 i, .int .i64 t, .int .i64 how, mV m] w fun en w' => en = .returned (outV (R.send i t how m).1) ∧ DocNext own w w' x (R.send i t how m).2 := by
  apply vk63
  unfold vc63
  obtain ⟨W, hW, hu, f0, f1, hs⟩ := two w (.cells (mCells m).toArray 64) (.cells zero66 66)
  have hA := h.upd hu
  have rd := readN_full (mCells m) (m_len m)
  rw [opK_box, opK_alloc_66]
  simp only [size_alloc', mV_cells, hW]
  have fin : ∀ {W' : World} {R' : RB} {o : Out}, DocNext own W W' x R' → (o, R') = R.send i t how m → stn 11 (.pointer (some ⟨w.heap.size + 1, 0, none⟩)) (outV o) W' fun _ w' => resK Try.prog [(.pointer (some ⟨w.heap.size + 1, 0, none⟩), some 66)] w' fun v w' => v = outV (R.send i t how m).1 ∧ DocNext own w w' x (R.send i t how m).2 := fun hn e => by
    rw [← e]
    exact dout_of h.lt hu f1 z66 (by omega) hn rfl
  by_cases hh' : ¬ (how = 1 ∨ how = 2 ∨ how = 3 ∨ how = 7)
  · have h1 : ¬ how = 1 := fun e => hh' (.inl e)
    have h2 : ¬ how = 2 := fun e => hh' (.inr (.inl e))
    have h3 : ¬ how = 3 := fun e => hh' (.inr (.inr (.inl e)))
    have h7 : ¬ how = 7 := fun e => hh' (.inr (.inr (.inr e)))
    simp [h1, h2, h3, h7]
    refine callK_of (refused108 1 W) ?_
    rintro r w2 ⟨rfl, hu2⟩
    refine ⟨_, rfl, ?_⟩
    exact fin (hA.next.upd hu2) (by unfold RB.send; rw [if_neg hh'])
  have hh := Decidable.not_not.1 hh'
  have hj : ∀ (K : Value → World → Prop), K (.bool false) W → (opK Try.prog (.binOp .neq 3 (.const (.int .i64 how)) (.const (.int .i64 1)) 3) 4 W fun t15 w =>
      gK t15 true w (fun K => K (.int .i64 how) w) fun t17 w =>
      gK t15 true w (fun K => opK Try.prog (.binOp .neq 3 (.const t17) (.const (.int .i64 2)) 3) 4 w K) fun t18 w =>
      opK Try.prog (.pick (.const t15) (.const t18) (.const (.bool false))) 4 w fun t19 w =>
      gK t19 true w (fun K => K (.int .i64 how) w) fun t21 w =>
      gK t19 true w (fun K => opK Try.prog (.binOp .neq 3 (.const t21) (.const (.int .i64 3)) 3) 4 w K) fun t22 w =>
      opK Try.prog (.pick (.const t19) (.const t22) (.const (.bool false))) 4 w fun t23 w =>
      gK t23 true w (fun K => K (.int .i64 how) w) fun t25 w =>
      gK t23 true w (fun K => opK Try.prog (.binOp .neq 3 (.const t25) (.const (.int .i64 7)) 3) 4 w K) fun t26 w =>
      opK Try.prog (.pick (.const t23) (.const t26) (.const (.bool false))) 4 w K) := fun K hK => by
    rcases hh with rfl | rfl | rfl | rfl <;> simpa using hK
  refine hj _ ?_
  simp only [boolK_bool, Bool.false_eq_true, if_false]
  refine callK_of (may109 hA hb1 hb2 i false t) ?_
  rintro r w2 ⟨rfl, rfl⟩
  refine ⟨_, rfl, ?_⟩
  by_cases hm' : ¬ R.may i false t = 0
  · simp [hm']
    refine callK_of (refused108 _ w2) ?_
    rintro r w3 ⟨rfl, hu3⟩
    refine ⟨_, rfl, ?_⟩
    exact fin (hA.next.upd hu3) (by unfold RB.send; rw [if_pos hh, if_neg hm'])
  have hm := Decidable.not_not.1 hm'
  simp [hm]
  refine callK_of (first110 hA hb2 i) ?_
  rintro r w3 ⟨rfl, rfl⟩
  refine ⟨_, rfl, ?_⟩
  cases he : R.first i with
  | none =>
    have hsend : R.send i t how m = if how = 1 then (refused 17, R) else (Vk.Ipc.waiting, R.add ⟨i, t, how, m⟩) := by unfold RB.send; rw [if_pos hh, if_pos hm, he]
    by_cases h1 : how = 1
    · subst h1
      simp [idxI]
      refine callK_of (refused108 17 w3) ?_
      rintro r w4 ⟨rfl, hu4⟩
      refine ⟨_, rfl, ?_⟩
      exact fin (hA.next.upd hu4) hsend.symm
    · rw [if_neg h1] at hsend
      simp [idxI, h1, hA.head, f0, rd]
      rw [show Value.agg (mCells m).toArray = mV m from rfl, sb197, bs57]
      have hA2 := hA.upd ((Upd.refl (fun _ => False) w3).drew.alloc (.cells (rwCells ⟨i, t, how, m⟩).toArray 197))
      refine ⟨by simp [hA2.head], ?_⟩
      refine hA.appW hb2 ((Upd.refl _ w3).drew.alloc _) (alloc_new w3.drew _) ?_
      intro v' w4 g1 g2 g3
      simp [g1, g2, b66w]
      exact fin g3 hsend.symm
  | some k =>
    have hk : k < R.W.length := findI_lt' he
    have hsend : R.send i t how m = if R.W[k].how = 4 then (told R.W[k].th how m, R.drop k) else if how = 1 then (refused 17, R) else (Vk.Ipc.waiting, R.add ⟨i, t, how, m⟩) := by
      unfold RB.send; rw [if_pos hh, if_pos hm, he]; simp only [getD_lt _ _ hk]
    obtain ⟨g, cap, rest, hwv, hg, hgx, _⟩ := hA.openW hk
    have hc := (rw_get R.W rest hk).2.2
    have h0 : (0 : Int) ≤ k := by omega
    have hhead := hA.head
    rw [hwv] at hhead
    generalize (R.W.flatMap rwCells ++ rest).toArray = cs at *
    by_cases h4 : R.W[k].how = 4
    · rw [if_pos h4] at hsend
      simp [idxI, h0, hhead, hk, hg, hc, h4]
      refine callK_of (drop111 hA hb2 hk) ?_
      rintro r w4 ⟨rfl, hn⟩
      refine ⟨_, rfl, ?_⟩
      have f04 := hn.keep f0 (h.new (Nat.le_refl _))
      obtain ⟨W5, hW5, hu5, k0, hs5⟩ := one w4 (.cells zero197 197)
      simp [hW5]
      refine full197 (o := R.W[k]) k0 z197 ?_
      have hu6 := hu5.putB (b := w4.heap.size) (.inl (Nat.le_refl _)) (.cells (rwCells R.W[k]).toArray 197 (0, 0))
      have k2 : (putB W5 w4.heap.size (.cells (rwCells R.W[k]).toArray 197 (0, 0))).heap[w4.heap.size]? = some (.cells (rwCells R.W[k]).toArray 197 (0, 0)) := putB_same (by omega) _
      generalize putB W5 w4.heap.size (.cells (rwCells R.W[k]).toArray 197 (0, 0)) = W6 at *
      have f06 := (hu6.old _ (blk_lt f04) fun f => f).trans f04
      have done : ∀ a b, (told R.W[k].th how m = ⟨0, R.W[k].th, m, a, b, false⟩) → stn 11 (.pointer (some ⟨w.heap.size + 1, 0, none⟩)) (outV ⟨0, R.W[k].th, m, a, b, false⟩) W6 fun _ w' => resK Try.prog [(.pointer (some ⟨w.heap.size + 1, 0, none⟩), some 66)] w' fun v w' => v = outV (R.send i t how m).1 ∧ DocNext own w w' x (R.send i t how m).2 := fun a b e => by
        rw [← e]
        exact fin (hn.upd hu6) hsend.symm
      by_cases c3 : how = 3
      · subst c3
        simp [k2, rw_get1, f06, rd]
        rw [show Value.agg (mCells m).toArray = mV m from rfl, b66t]
        exact done _ _ (by simp [told])
      · by_cases c7 : how = 7
        · subst c7
          simp [k2, rw_get1, f06, rd]
          rw [show Value.agg (mCells m).toArray = mV m from rfl, b66t]
          exact done _ _ (by simp [told])
        · simp [k2, rw_get1, f06, rd]
          rw [show Value.agg (mCells m).toArray = mV m from rfl, b66t]
          exact done _ _ (by simp [told, c3, c7, show (how == 3) = false by simpa using c3, show (how == 7) = false by simpa using c7])
    · rw [if_neg h4] at hsend
      by_cases h1 : how = 1
      · subst h1
        simp [idxI, h0, hhead, hk, hg, hc, h4]
        refine callK_of (refused108 17 w3) ?_
        rintro r w4 ⟨rfl, hu4⟩
        refine ⟨_, rfl, ?_⟩
        exact fin (hA.next.upd hu4) hsend.symm
      · rw [if_neg h1] at hsend
        simp [idxI, h0, hhead, hk, hg, hc, h4, h1, f0, rd]
        rw [show Value.agg (mCells m).toArray = mV m from rfl, sb197, bs57]
        have hA2 := hA.upd ((Upd.refl (fun _ => False) w3).drew.alloc (.cells (rwCells ⟨i, t, how, m⟩).toArray 197))
        have hhead2 := hA2.head
        rw [hwv] at hhead2
        refine ⟨by simp [hhead2], ?_⟩
        rw [← hwv]
        refine hA.appW hb2 ((Upd.refl _ w3).drew.alloc _) (alloc_new w3.drew _) ?_
        intro v' w4 g1 g2 g3
        rw [hwv] at g1
        simp [g1, g2, b66w]
        exact fin g3 hsend.symm

set_option maxRecDepth 100000 in
theorem DGet (h : DocAt own w x R pv wv) (hb1 : R.P.length < 1000000000) (hb2 : R.W.length < 1000000000) (i t : Int) (wt : Bool) :
    Calls Try.prog 65 #[.pointer (some ⟨x, 0, none⟩), .int .i64 i, .int .i64 t, .bool wt] w fun en w' => en = .returned (outV (R.get i t wt).1) ∧ DocNext own w w' x (R.get i t wt).2 := by
  apply vk65
  unfold vc65
  obtain ⟨W, hW, hu, f0, hs⟩ := one w (.cells zero66 66)
  have hA := h.upd hu
  rw [opK_alloc_66, hW]
  have fin : ∀ {W' : World} {R' : RB} {o : Out}, DocNext own W W' x R' → (o, R') = R.get i t wt → stn 11 (.pointer (some ⟨w.heap.size, 0, none⟩)) (outV o) W' fun _ w' => resK Try.prog [(.pointer (some ⟨w.heap.size, 0, none⟩), some 66)] w' fun v w' => v = outV (R.get i t wt).1 ∧ DocNext own w w' x (R.get i t wt).2 := fun hn e => by
    rw [← e]
    exact dout_of h.lt hu f0 z66 (by omega) hn rfl
  refine callK_of (may109 hA hb1 hb2 i false t) ?_
  rintro r w2 ⟨rfl, rfl⟩
  refine ⟨_, rfl, ?_⟩
  by_cases hm' : ¬ R.may i false t = 0
  · simp [hm']
    refine callK_of (refused108 _ w2) ?_
    rintro r w3 ⟨rfl, hu3⟩
    refine ⟨_, rfl, ?_⟩
    exact fin (hA.next.upd hu3) (by unfold RB.get; rw [if_neg hm'])
  have hm := Decidable.not_not.1 hm'
  simp [hm]
  refine callK_of (first110 hA hb2 i) ?_
  rintro r w3 ⟨rfl, rfl⟩
  refine ⟨_, rfl, ?_⟩
  cases he : R.first i with
  | none =>
    have hget : R.get i t wt = if wt then (Vk.Ipc.waiting, R.add ⟨i, t, 4, .zero⟩) else (refused 17, R) := by unfold RB.get; rw [if_pos hm, he]
    cases wt with
    | false =>
      simp [idxI]
      refine callK_of (refused108 17 w3) ?_
      rintro r w4 ⟨rfl, hu4⟩
      refine ⟨_, rfl, ?_⟩
      exact fin (hA.next.upd hu4) hget.symm
    | true =>
      simp [idxI, hA.head, b197, bs57]
      refine hA.appW hb2 ((Upd.refl _ w3).alloc _) (alloc_new w3 _) ?_
      intro v' w4 g1 g2 g3
      simp [g1, g2, b66w]
      exact fin g3 hget.symm
  | some k =>
    have hk : k < R.W.length := findI_lt' he
    have hget : R.get i t wt = if R.W[k].how = 4 then (if wt then (Vk.Ipc.waiting, R.add ⟨i, t, 4, .zero⟩) else (refused 17, R)) else (told R.W[k].th R.W[k].how R.W[k].m, R.drop k) := by
      unfold RB.get; rw [if_pos hm, he]; simp only [getD_lt _ _ hk]
    obtain ⟨g, cap, rest, hwv, hg, hgx, _⟩ := hA.openW hk
    have hc := (rw_get R.W rest hk).2.2
    have h0 : (0 : Int) ≤ k := by omega
    have hhead := hA.head
    rw [hwv] at hhead
    generalize (R.W.flatMap rwCells ++ rest).toArray = cs at *
    by_cases h4 : R.W[k].how = 4
    · rw [if_pos h4] at hget
      cases wt with
      | false =>
        simp [idxI, h0, hhead, hk, hg, hc, h4]
        refine callK_of (refused108 17 w3) ?_
        rintro r w4 ⟨rfl, hu4⟩
        refine ⟨_, rfl, ?_⟩
        exact fin (hA.next.upd hu4) hget.symm
      | true =>
        simp [idxI, h0, hhead, hk, hg, hc, h4, b197, bs57]
        rw [← hwv]
        refine hA.appW hb2 ((Upd.refl _ w3).alloc _) (alloc_new w3 _) ?_
        intro v' w4 g1 g2 g3
        rw [hwv] at g1
        simp [g1, g2, b66w]
        exact fin g3 hget.symm
    · rw [if_neg h4] at hget
      simp [idxI, h0, hhead, hk, hg, hc, h4]
      refine callK_of (drop111 hA hb2 hk) ?_
      rintro r w4 ⟨rfl, hn⟩
      refine ⟨_, rfl, ?_⟩
      obtain ⟨W5, hW5, hu5, k0, hs5⟩ := one w4 (.cells zero197 197)
      simp [hW5]
      refine full197 (o := R.W[k]) k0 z197 ?_
      have hu6 := hu5.putB (b := w4.heap.size) (.inl (Nat.le_refl _)) (.cells (rwCells R.W[k]).toArray 197 (0, 0))
      have k2 : (putB W5 w4.heap.size (.cells (rwCells R.W[k]).toArray 197 (0, 0))).heap[w4.heap.size]? = some (.cells (rwCells R.W[k]).toArray 197 (0, 0)) := putB_same (by omega) _
      generalize putB W5 w4.heap.size (.cells (rwCells R.W[k]).toArray 197 (0, 0)) = W6 at *
      have done : ∀ a b, (told R.W[k].th R.W[k].how R.W[k].m = ⟨0, R.W[k].th, R.W[k].m, a, b, false⟩) → stn 11 (.pointer (some ⟨w.heap.size, 0, none⟩)) (outV ⟨0, R.W[k].th, R.W[k].m, a, b, false⟩) W6 fun _ w' => resK Try.prog [(.pointer (some ⟨w.heap.size, 0, none⟩), some 66)] w' fun v w' => v = outV (R.get i t wt).1 ∧ DocNext own w w' x (R.get i t wt).2 := fun a b e => by
        rw [← e]
        exact fin (hn.upd hu6) hget.symm
      by_cases c3 : R.W[k].how = 3
      · simp [k2, rw_get1, rw_get2, rd_m9, c3]
        rw [show Value.agg (mCells R.W[k].m).toArray = mV R.W[k].m from rfl, b66t]
        exact done _ _ (by simp [told, c3])
      · by_cases c7 : R.W[k].how = 7
        · simp [k2, rw_get1, rw_get2, rd_m9, c7]
          rw [show Value.agg (mCells R.W[k].m).toArray = mV R.W[k].m from rfl, b66t]
          exact done _ _ (by simp [told, c7])
        · have e3 : (R.W[k].how == 3) = false := by simpa using c3
          have e7 : (R.W[k].how == 7) = false := by simpa using c7
          simp [k2, rw_get1, rw_get2, rd_m9, e3, e7]
          rw [show Value.agg (mCells R.W[k].m).toArray = mV R.W[k].m from rfl, b66t]
          exact done _ _ (by simp [told, c3, c7])

theorem RP_set (L : List RP) (rest : List Value) {i : Nat} (hi : i < L.length) (y : Int) : (L.flatMap rpCells ++ rest).toArray.setIfInBounds (i * 3 + 2) (.int .u32 y) = ((L.modify i fun p => { p with word := y }).flatMap rpCells ++ rest).toArray :=
  flat_seta rp_len _ _ L rest i 2 hi (by omega) rfl
theorem rp_lt (L : List RP) (rest : List Value) {i j : Nat} (hi : i < L.length) (hj : j < 3) : i * 3 + j < (L.flatMap rpCells ++ rest).toArray.size := by
  simp only [List.size_toArray, List.length_append, flat_len rp_len]
  omega

/-- What a bell has kept changes. -/
theorem DocAt.setWord (h : DocAt own w x R pv wv) {k g cap : Nat} {rest : List Value} (hk : k < R.P.length) (hpv : pv = .slice (some ⟨g, 0, none⟩) R.P.length cap) (hg : w.heap[g]? = some (.cells (R.P.flatMap rpCells ++ rest).toArray 189 (0, 0))) (y : Int) :
    DocNext own w (putB w g (.cells ((R.P.flatMap rpCells ++ rest).toArray.setIfInBounds (k * 3 + 2) (.int .u32 y)) 189 (0, 0))) x (R.setWord k y) := by
  subst hpv
  have hgo := h.o_ps g rfl
  have hgl := blk_lt hg
  rw [RP_set R.P rest hk y]
  refine ⟨own, ⟨_, _, ?_, ?_, ?_, h.o_head, h.o_ps, h.o_ws, fun b hb => by simpa using h.lt b hb⟩, fun _ hb => .inl hb, (Upd.refl _ w).putB (.inr (by rw [hgo]; simp)) _⟩
  · rw [putB_other (h.ne h.o_head hgo (by simp))]
    have : (R.setWord k y).P.length = R.P.length := by simp [RB.setWord]
    exact h.head
  · rcases row_open h.ps with ⟨h0, _, _⟩ | ⟨g2, cap2, rest2, h0, hg2, hn, hm, hsz, hl⟩
    · simp at h0
    · simp only [Value.slice.injEq, Option.some.injEq, Addr.mk.injEq] at h0
      obtain ⟨⟨rfl, _⟩, _, rfl⟩ := h0
      rw [hg] at hg2
      have hr : rest = rest2 := by simpa using hg2
      subst hr
      have hlen : ((R.setWord k y).P.flatMap rpCells).length = R.P.length * 3 := by rw [flat_len rp_len]; simp [RB.setWord]
      have hlp : (R.setWord k y).P.length = R.P.length := by simp [RB.setWord]
      rw [hlp]
      refine row_shut (putB_same hgl _) hn hm ?_ hlen
      rw [List.length_append]
      rw [List.length_append, hl] at hsz
      have : ((R.P.modify k fun p => { p with word := y }).flatMap rpCells).length = R.P.length * 3 := hlen
      omega
  · exact row_keep h.ws fun g2 hg2 => putB_other (h.ne (h.o_ws g2 hg2) hgo (by simp)) _

set_option maxRecDepth 100000 in
theorem DRing (h : DocAt own w x R pv wv) (hb1 : R.P.length < 1000000000) (hb2 : R.W.length < 1000000000) (i badge : Int) :
    Calls Try.prog 66 #[.pointer (some ⟨x, 0, none⟩), .int .i64 i, .int .u32 badge] w fun en w' => en = .returned (outV (R.ring bor32 i badge).1) ∧ DocNext own w w' x (R.ring bor32 i badge).2 := by
  apply vk66
  unfold vc66
  obtain ⟨W, hW, hu, f0, hs⟩ := one w (.cells zero66 66)
  have hA := h.upd hu
  rw [opK_alloc_66, hW]
  have fin : ∀ {W' : World} {R' : RB} {o : Out}, DocNext own W W' x R' → (o, R') = R.ring bor32 i badge → stn 11 (.pointer (some ⟨w.heap.size, 0, none⟩)) (outV o) W' fun _ w' => resK Try.prog [(.pointer (some ⟨w.heap.size, 0, none⟩), some 66)] w' fun v w' => v = outV (R.ring bor32 i badge).1 ∧ DocNext own w w' x (R.ring bor32 i badge).2 := fun hn e => by
    rw [← e]
    exact dout_of h.lt hu f0 z66 (by omega) hn rfl
  refine callK_of (place103 hA hb1 i) ?_
  rintro r w2 ⟨rfl, rfl⟩
  refine ⟨_, rfl, ?_⟩
  cases hpl : R.place i with
  | none =>
    simp [idxI]
    refine callK_of (refused108 6 w2) ?_
    rintro r w3 ⟨rfl, hu3⟩
    refine ⟨_, rfl, ?_⟩
    exact fin (hA.next.upd hu3) (by unfold RB.ring; rw [hpl])
  | some k =>
    have hk : k < R.P.length := findI_lt' hpl
    obtain ⟨g, cap, rest, hpv, hg, hgx, _⟩ := hA.openP hk
    have hc1 := (rp_get R.P rest hk).2.1
    have hc2 := (rp_get R.P rest hk).2.2
    have h0 : ¬ (k : Int) < 0 := by omega
    have hhead := hA.head
    rw [hpv] at hhead
    have hset := ((hA.upd ((Upd.refl _ w2).drew)).setWord hk hpv hg (bor32 R.P[k].word badge)).before ((Upd.refl _ w2).drew)
    have hlt2 := rp_lt R.P rest hk (j := 2) (by omega)
    generalize (R.P.flatMap rpCells ++ rest).toArray = cs at *
    cases hb : R.P[k].bell with
    | false =>
      have hring : R.ring bor32 i badge = (refused 6, R) := by unfold RB.ring; rw [hpl]; simp only [getD_lt _ _ hk, hb, Bool.false_eq_true, if_false]
      simp [idxI, h0, hhead, hk, hg, hc1, hb]
      refine callK_of (refused108 6 w2) ?_
      rintro r w3 ⟨rfl, hu3⟩
      refine ⟨_, rfl, ?_⟩
      exact fin (o := refused 6) (hA.next.upd hu3) hring.symm
    | true =>
      simp [idxI, h0, hhead, hk, hg, hc1, hb]
      refine callK_of (first110 hA hb2 i) ?_
      rintro r w3 ⟨rfl, rfl⟩
      refine ⟨_, rfl, ?_⟩
      cases he : R.first i with
      | none =>
        have hring : R.ring bor32 i badge = (⟨0, -1, .zero, false, false, false⟩, R.setWord k (bor32 R.P[k].word badge)) := by unfold RB.ring; rw [hpl]; simp only [getD_lt _ _ hk, hb, he, if_true]
        simp [idxI, hhead, hk, hg, hc2]
        refine ⟨hlt2, ?_⟩
        simp [b66p]
        exact fin (o := ⟨0, -1, .zero, false, false, false⟩) hset hring.symm
      | some j =>
        have hj : j < R.W.length := findI_lt' he
        have hring : R.ring bor32 i badge = (⟨0, R.W[j].th, .badge badge, false, false, false⟩, R.drop j) := by unfold RB.ring; rw [hpl]; simp only [getD_lt _ _ hk, hb, he, getD_lt _ _ hj, if_true]
        have h00 : (0 : Int) ≤ j := by omega
        simp [idxI, h00]
        refine callK_of (drop111 hA hb2 hj) ?_
        rintro r w4 ⟨rfl, hn⟩
        refine ⟨_, rfl, ?_⟩
        obtain ⟨W5, hW5, hu5, k0, hs5⟩ := one w4 (.cells zero197 197)
        simp [hW5]
        refine full197 (o := R.W[j]) k0 z197 ?_
        have hu6 := hu5.putB (b := w4.heap.size) (.inl (Nat.le_refl _)) (.cells (rwCells R.W[j]).toArray 197 (0, 0))
        have k2 : (putB W5 w4.heap.size (.cells (rwCells R.W[j]).toArray 197 (0, 0))).heap[w4.heap.size]? = some (.cells (rwCells R.W[j]).toArray 197 (0, 0)) := putB_same (by omega) _
        generalize putB W5 w4.heap.size (.cells (rwCells R.W[j]).toArray 197 (0, 0)) = W6 at *
        simp [k2, rw_get1, b64, b66m]
        exact fin (o := ⟨0, R.W[j].th, .badge badge, false, false, false⟩) (hn.upd hu6) hring.symm

set_option maxRecDepth 100000 in
theorem DHear (h : DocAt own w x R pv wv) (hb1 : R.P.length < 1000000000) (hb2 : R.W.length < 1000000000) (i t : Int) (wt : Bool) :
    Calls Try.prog 68 #[.pointer (some ⟨x, 0, none⟩), .int .i64 i, .int .i64 t, .bool wt] w fun en w' => en = .returned (outV (R.hear i t wt).1) ∧ DocNext own w w' x (R.hear i t wt).2 := by
  apply vk68
  unfold vc68
  obtain ⟨W, hW, hu, f0, hs⟩ := one w (.cells zero66 66)
  have hA := h.upd hu
  rw [opK_alloc_66, hW]
  have fin : ∀ {W' : World} {R' : RB} {o : Out}, DocNext own W W' x R' → (o, R') = R.hear i t wt → stn 11 (.pointer (some ⟨w.heap.size, 0, none⟩)) (outV o) W' fun _ w' => resK Try.prog [(.pointer (some ⟨w.heap.size, 0, none⟩), some 66)] w' fun v w' => v = outV (R.hear i t wt).1 ∧ DocNext own w w' x (R.hear i t wt).2 := fun hn e => by
    rw [← e]
    exact dout_of h.lt hu f0 z66 (by omega) hn rfl
  refine callK_of (may109 hA hb1 hb2 i true t) ?_
  rintro r w2 ⟨rfl, rfl⟩
  refine ⟨_, rfl, ?_⟩
  by_cases hm' : ¬ R.may i true t = 0
  · simp [hm']
    refine callK_of (refused108 _ w2) ?_
    rintro r w3 ⟨rfl, hu3⟩
    refine ⟨_, rfl, ?_⟩
    exact fin (hA.next.upd hu3) (by unfold RB.hear; rw [if_neg hm'])
  have hm := Decidable.not_not.1 hm'
  simp [hm]
  refine callK_of (place103 hA hb1 i) ?_
  rintro r w3 ⟨rfl, rfl⟩
  refine ⟨_, rfl, ?_⟩
  cases hpl : R.place i with
  | none =>
    exfalso
    unfold RB.may at hm
    rw [hpl] at hm
    simp at hm
  | some k =>
    have hk : k < R.P.length := findI_lt' hpl
    obtain ⟨g, cap, rest, hpv, hg, hgx, _⟩ := hA.openP hk
    have hc2 := (rp_get R.P rest hk).2.2
    have hhead := hA.head
    rw [hpv] at hhead
    have hset := hA.setWord hk hpv hg 0
    have hlt2 := rp_lt R.P rest hk (j := 2) (by omega)
    generalize (R.P.flatMap rpCells ++ rest).toArray = cs at *
    have hhear : R.hear i t wt = if R.P[k].word = 0 then (if wt then (Vk.Ipc.waiting, R.add ⟨i, t, 6, .zero⟩) else (refused 17, R))
      else (⟨0, -1, .badge R.P[k].word, false, false, false⟩, R.setWord k 0) := by
      unfold RB.hear; rw [if_pos hm, hpl]; simp only [getD_lt _ _ hk]
    by_cases hz : R.P[k].word = 0
    · rw [if_pos hz] at hhear
      cases wt with
      | false =>
        simp [idxI, hhead, hk, hg, hc2, hz]
        refine callK_of (refused108 17 w3) ?_
        rintro r w4 ⟨rfl, hu4⟩
        refine ⟨_, rfl, ?_⟩
        exact fin (hA.next.upd hu4) hhear.symm
      | true =>
        simp [idxI, hhead, hk, hg, hc2, hz, b197, bs57]
        refine hA.appW hb2 ((Upd.refl _ w3).alloc _) (alloc_new w3 _) ?_
        intro v' w4 g1 g2 g3
        rw [hpv] at g1 g3
        simp [g1, g2, b66w]
        exact fin g3 hhear.symm
    · rw [if_neg hz] at hhear
      simp [idxI, hhead, hk, hg, hc2, hz]
      refine ⟨hlt2, ?_⟩
      simp [b64, b66m]
      exact fin hset hhear.symm

set_option maxRecDepth 100000 in
theorem DCancel (h : DocAt own w x R pv wv) (hb2 : R.W.length < 1000000000) (t : Int) :
    Calls Try.prog 70 #[.pointer (some ⟨x, 0, none⟩), .int .i64 t] w fun en w' => en = .returned (.int .i64 (R.cancel t).1) ∧ DocNext own w w' x (R.cancel t).2 := by
  apply vk70
  unfold vc70
  refine callK_of (waits114 h hb2 t) ?_
  rintro r w2 ⟨rfl, rfl⟩
  refine ⟨_, rfl, ?_⟩
  unfold RB.cancel
  cases he : R.waits t with
  | none =>
    simp [idxI]
    exact h.next
  | some k =>
    have hk : k < R.W.length := findI_lt' he
    have h0 : ¬ (k : Int) < 0 := by omega
    simp [idxI, h0]
    refine callK_of (drop111 h hb2 hk) ?_
    rintro r w4 ⟨rfl, hn⟩
    exact ⟨_, rfl, hn⟩
end
end Go.Proofs.Ytaniphdbebdhhaa.Ipc
