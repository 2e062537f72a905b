/-
  The document's scheduler: Add, Remove. No condition.
-/
import Derived.Test.YtaniphdbebdhhaaRf3
namespace Go.Proofs.Ytaniphdbebdhhaa
open Go.Vk Vk.Sched

theorem ent_info : ∃ i, Try.prog.info? 168 = some i ∧ i.zero = some (.agg #[.int .i64 0, .int .i64 0, .int .i64 0, .int .i64 0, .int .i64 0]) ∧ i.size = 5 ∧ i.bytes = 40 := by
  have h : (Try.prog.info? 168).map (fun i => (i.zero, i.size, i.bytes)) = some (some (.agg #[.int .i64 0, .int .i64 0, .int .i64 0, .int .i64 0, .int .i64 0]), 5, 40) := by kernel_rfl
  cases hi : Try.prog.info? 168 with
  | none => rw [hi] at h; cases h
  | some i => rw [hi] at h; simp at h; exact ⟨i, rfl, h.1, h.2.1, h.2.2⟩

theorem bld168 (t d p : Int) (ty : TypeId) (w : World) (K : Value → World → Prop) :
    opK Try.prog (.build 168 #[(0, .const (.int .i64 t)), (1, .const (.int .i64 d)), (2, .const (.int .i64 p))]) ty w K = K (.agg #[.int .i64 t, .int .i64 d, .int .i64 p, .int .i64 0, .int .i64 0]) w := opK_of (by kernel_rfl) rfl
theorem bs100 (a b c d e : Int) (ty : TypeId) (w : World) (K : Value → World → Prop) :
    opK Try.prog (.buildSlice 100 1 #[(0, .const (.agg #[.int .i64 a, .int .i64 b, .int .i64 c, .int .i64 d, .int .i64 e]))]) ty w K = K (.slice (some ⟨w.heap.size, 0, none⟩) 1 1) (w.alloc (.cells #[.int .i64 a, .int .i64 b, .int .i64 c, .int .i64 d, .int .i64 e] 168)) := opK_of (by kernel_rfl) rfl

section
variable {own : Nat → Option RTag} {w w' : World} {x : Nat} {R : RS} {tv lv : Value}

/-- Another row of entities. -/
theorem RefAt.newRow (h : RefAt own w x R tv lv) {R' : RS} {v' : Value} (e1 : R'.turns = R.turns) (hx : w'.heap[x]? = some (.cells (refCells tv v' R') 102 (0, 0)))
    (hrow : w'.ownsRow 0 168 5 v' R'.L.length (R'.L.flatMap reCells)) (hold : ∀ b, own b ≠ none → b ≠ x → own b ≠ some .ents → w'.heap[b]? = w.heap[b]?)
    (hb : ∀ b, v'.ownBlock = some b → own b = some .ents ∨ own b = none) (hs : w.heap.size ≤ w'.heap.size) :
    RefAt (fun b => if v'.ownBlock = some b then some .ents else own b) w' x R' tv v' := by
  have ho : ∀ b T, own b = some T → (if v'.ownBlock = some b then some .ents else own b) = some T := fun b T hT => by
    by_cases e : v'.ownBlock = some b
    · rw [if_pos e]
      rcases hb b e with h1 | h1
      · rw [h1] at hT; exact hT
      · rw [h1] at hT; cases hT
    · rw [if_neg e]; exact hT
  refine ⟨hx, ?_, hrow, ho _ _ h.o_head, fun b hb => ho _ _ (h.o_turns b hb), fun b hb => if_pos hb, fun b hb2 => ?_⟩
  · rw [e1]
    exact row_keep h.turns fun g hg => hold g (by rw [h.o_turns g hg]; simp) (fun e => by have := h.o_turns g hg; rw [e, h.o_head] at this; simp at this) (by rw [h.o_turns g hg]; simp)
  · by_cases e : v'.ownBlock = some b
    · exact row_lt hrow e
    · simp only [if_neg e] at hb2
      exact Nat.lt_of_lt_of_le (h.lt b hb2) hs

set_option maxRecDepth 100000 in
theorem RAdd_calls (h : RefAt own w x R tv lv) (hbig : R.L.length < 1000000000) (t d p : Int) :
    Calls Try.prog 34 #[.pointer (some ⟨x, 0, none⟩), .int .i64 t, .int .i64 d, .int .i64 p] w fun en w' => en = .returned (.int .i64 (R.add t d p).1) ∧ RefNext own w w' x (R.add t d p).2 := by
  apply vk34
  unfold RS.add
  cases hpd : decide (t < 0 ∨ d < 0 ∨ 7 < d ∨ p < 0 ∨ 7 < p) with
  | true =>
    have hp := of_decide_eq_true hpd
    have hp' : (((t < 0 ∨ d < 0) ∨ 7 < d) ∨ p < 0) ∨ 7 < p := by omega
    simp only [hp, if_true]
    simp [vc34, hp']
    exact .same h
  | false =>
    have hp := of_decide_eq_false hpd
    have hp' : ¬ ((((t < 0 ∨ d < 0) ∨ 7 < d) ∨ p < 0) ∨ 7 < p) := by omega
    simp only [hp, if_false]
    simp [vc34, hp']
    refine callK_of (find_calls h hbig t) ?_
    rintro r w2 ⟨rfl, rfl⟩
    refine ⟨_, rfl, ?_⟩
    cases he : R.find t with
    | some i =>
      have h0 : (0 : Int) ≤ i := by omega
      simp [findI_some he, h0]
      exact .same h
    | none =>
      obtain ⟨inf, hi1, hi2, hi3, hi4⟩ := ent_info
      have hhead := h.head
      unfold refCells at hhead
      simp [findI_none he, hhead, bld168, bs100]
      have hxl := blk_lt hhead
      have hv1 : (w2.alloc (.cells #[.int .i64 t, .int .i64 d, .int .i64 p, .int .i64 0, .int .i64 0] 168)).ownsRow 0 168 5 lv R.L.length (R.L.flatMap reCells) := row_keep h.ents fun g hg => alloc_old (row_lt h.ents hg) _
      have hlx : lv.ownBlock ≠ some x := fun e => by have := h.o_ents x e; rw [h.o_head] at this; simp at this
      refine opK_append1 Try.underlying100 hi1 hi2 hi3 hi4 rfl (by omega) hv1 (alloc_new _ _) (m := 1) rfl (by simp) (by simp [maxLen]; omega) (by omega) ?_
      intro v' w3 h1 h2 h3
      have hx3 : w3.heap[x]? = w2.heap[x]? := by
        rw [h2.block x (by simp; omega) (fun e => hlx e.symm), alloc_old hxl]
      have hnx : ∀ g, v'.ownBlock = some g → g ≠ x := fun g hg e => by
        subst e
        rcases h3 g hg with h | h
        · exact hlx h
        · simp at h; omega
      have hx3l : x < w3.heap.size := blk_lt (hx3.trans hhead)
      simp [hx3, hhead, row_one h1]
      have hrow : (R.L ++ [(⟨t, d, p, 0, 0⟩ : RE)]).flatMap reCells = R.L.flatMap reCells ++ [.int .i64 t, .int .i64 d, .int .i64 p, .int .i64 0, .int .i64 0] := by simp [reCells]
      have hs3 : w2.heap.size + 1 ≤ w3.heap.size := by simpa using h2.size
      have hu3 : Upd (fun b => own b ≠ none) w2 w3 := ((Upd.refl _ w2).alloc _).trans (Upd.grown (F := fun b => own b ≠ none) h2 (fun k hk => by rw [h.o_ents k hk]; simp)) fun _ _ h => h
      refine ⟨_, ⟨_, _, h.newRow (R' := { R with L := R.L ++ [⟨t, d, p, 0, 0⟩] }) (v' := v') rfl (putB_same hx3l _) ?_ (fun b hb hbx hbe => ?_) (fun b hb => ?_) (by simp; omega)⟩, fun b hb => ?_, hu3.putB (.inr (by rw [h.o_head]; simp)) _⟩
      · have := row_keep (w' := putB w3 x (.cells #[tv, .int .i64 R.turn, .int .i64 R.left, v', .int .i64 R.clock] 102 (0, 0))) h1 fun g hg => putB_other (hnx g hg) _
        simp only [List.length_append, List.length_singleton]
        rw [hrow]
        exact this
      · rw [putB_other hbx, h2.block b (by have := h.lt b hb; simp; omega) (fun e => hbe (h.o_ents b e.symm)), alloc_old (h.lt b hb)]
      · rcases h3 b hb with h4 | h4
        · exact .inl (h.o_ents b h4)
        · right
          cases ho : own b with
          | none => rfl
          | some T => have := h.lt b (by rw [ho]; simp); simp at h4; omega
      · by_cases e : v'.ownBlock = some b
        · rcases h3 b e with h4 | h4
          · left; rw [h.o_ents b h4]; simp
          · right; simp at h4; omega
        · simp only [if_neg e] at hb; exact .inl hb

set_option maxRecDepth 100000 in
theorem RRemove_calls (h : RefAt own w x R tv lv) (hbig : R.L.length < 1000000000) (t : Int) :
    Calls Try.prog 36 #[.pointer (some ⟨x, 0, none⟩), .int .i64 t] w fun en w' => en = .returned (.int .i64 (R.remove t).1) ∧ RefNext own w w' x (R.remove t).2 := by
  apply vk36
  unfold vc36
  refine callK_of (find_calls h hbig t) ?_
  rintro r w2 ⟨rfl, rfl⟩
  refine ⟨_, rfl, ?_⟩
  unfold RS.remove
  cases he : R.find t with
  | none =>
    simp [findI_none he]
    exact .same h
  | some i =>
    have hi := find_lt he
    obtain ⟨g, cap, rest, rfl, hg, hgx, hgo, hnc, hcm, hsz⟩ := h.open hi
    obtain ⟨inf, hi1, hi2, hi3, hi4⟩ := ent_info
    have hhead := h.head
    unfold refCells at hhead
    have h0 : ¬ (i : Int) < 0 := by omega
    have hic : (i : Int) ≤ cap := by omega
    have hxl := blk_lt hhead
    have hgl := blk_lt hg
    simp [findI_some he, hhead, h0, hic]
    have hflen := flat_len re_len R.L
    have hsize : (recs R.L rest).size = cap * 5 := by simpa [recs] using hsz
    have hget : ∀ q, q < R.L.length * 5 → (recs R.L rest)[q]? = (R.L.flatMap reCells)[q]? := fun q hq => by
      unfold recs
      rw [List.getElem?_toArray, List.getElem?_append_left (by rw [hflen]; exact hq)]
    have htk : (R.L.take i).flatMap reCells = (R.L.flatMap reCells).take (i * 5) := by
      have : R.L.flatMap reCells = (R.L.take i).flatMap reCells ++ (R.L.drop i).flatMap reCells := by rw [← List.flatMap_append, List.take_append_drop]
      rw [this, List.take_left' (by rw [flat_len re_len]; simp; omega)]
    have hdk : (R.L.drop (i + 1)).flatMap reCells = (R.L.flatMap reCells).drop ((i + 1) * 5) := by
      have : R.L.flatMap reCells = (R.L.take (i + 1)).flatMap reCells ++ (R.L.drop (i + 1)).flatMap reCells := by rw [← List.flatMap_append, List.take_append_drop]
      rw [this, List.drop_left' (by rw [flat_len re_len]; simp; omega)]
    have hone : ∀ (L : List RE), ∀ u ∈ L.flatMap reCells, u.oneCell' = true := fun L u hu => by
      obtain ⟨e, _, he⟩ := List.mem_flatMap.1 hu
      simp [reCells] at he
      rcases he with rfl | rfl | rfl | rfl | rfl <;> rfl
    refine opK_appendN Try.underlying100 hi1 hi2 hi3 hi4 rfl (by omega) (World.ownsRow_nil w2 0 168 5) (news := (R.L.take i).flatMap reCells) ?_ (by rw [flat_len re_len]; simp; omega) (hone _) (by omega) (by omega) ?_
    · intro j u hu
      have hj : j < i * 5 := by
        have : j < ((R.L.take i).flatMap reCells).length := (List.getElem?_eq_some_iff.1 hu).1
        rw [flat_len re_len] at this; simp at this; omega
      rw [add_off, cell_of_blk hg, Nat.zero_add, hget j (by omega)]
      rw [htk, List.getElem?_take, if_pos hj] at hu
      exact hu
    intro v3 w3 h1 h2 h3
    have hold3 : ∀ b, b < w2.heap.size → w3.heap[b]? = w2.heap[b]? := fun b hb => h2.block b hb (by simp [Value.ownBlock])
    have hx3 := (hold3 x hxl).trans hhead
    have hg3 := (hold3 g hgl).trans hg
    have hw1 : IntKind.i64.wrap ((i : Int) + 1) = ((i + 1 : Nat) : Int) := by rw [wrap_i64 (by omega) (by omega)]; rfl
    have hlo : ((i + 1 : Nat) : Int) ≤ R.L.length := by omega
    have hlo0 : (0 : Int) ≤ ((i + 1 : Nat) : Int) := by omega
    simp [hx3, hw1, -Int.natCast_add]
    rw [opK_sl_lo_100 _ _ _ _ _ hlo0 hlo]
    simp only [Int.toNat_natCast]
    refine opK_appendN Try.underlying100 hi1 hi2 hi3 hi4 rfl (by omega) h1 (news := (R.L.drop (i + 1)).flatMap reCells) ?_ (by rw [flat_len re_len]; simp) (hone _) (by omega) (by omega) ?_
    · intro j u hu
      have hj : j < (R.L.length - (i + 1)) * 5 := by
        have : j < ((R.L.drop (i + 1)).flatMap reCells).length := (List.getElem?_eq_some_iff.1 hu).1
        rw [flat_len re_len] at this; simpa using this
      rw [if_neg (by intro e; rw [show R.L.length - (i + 1) = 0 by omega] at hj; omega)]
      rw [add_off, cell_of_blk hg3, hget _ (by omega)]
      rw [hdk, List.getElem?_drop] at hu
      exact hu
    intro v4 w4 h4 h5 h6
    have hs3 : w2.heap.size ≤ w3.heap.size := h2.size
    have hs4 : w3.heap.size ≤ w4.heap.size := h5.size
    have h3' : ∀ b, v3.ownBlock = some b → w2.heap.size ≤ b := fun b hb => by
      rcases h3 b hb with h | h
      · simp [Value.ownBlock] at h
      · exact h
    have h6' : ∀ b, v4.ownBlock = some b → w2.heap.size ≤ b := fun b hb => by
      rcases h6 b hb with h | h
      · exact h3' b h
      · omega
    have hold4 : ∀ b, b < w2.heap.size → w4.heap[b]? = w2.heap[b]? := fun b hb => by
      rw [h5.block b (by omega) (fun e => by have := h3' b e.symm; omega), hold3 b hb]
    have hx4 := (hold4 x hxl).trans hhead
    have hu4 : Upd (fun b => own b ≠ none) w2 w4 := ⟨h5.os.trans h2.os, h5.tape.trans h2.tape, h5.output.trans h2.output, by omega, fun b hb _ => hold4 b hb⟩
    simp [hx4, row_one h4]
    have hrow : (R.L.take i ++ R.L.drop (i + 1)).flatMap reCells = [] ++ (R.L.take i).flatMap reCells ++ (R.L.drop (i + 1)).flatMap reCells := by simp [List.flatMap_append]
    have hlen : (R.L.take i ++ R.L.drop (i + 1)).length = 0 + i + (R.L.length - (i + 1)) := by simp; omega
    refine ⟨_, ⟨_, _, h.newRow (R' := { R with L := R.L.take i ++ R.L.drop (i + 1) }) (v' := v4) rfl (putB_same (blk_lt hx4) _) ?_ (fun b hb hbx hbe => ?_) (fun b hb => ?_) (by simp; omega)⟩, fun b hb => ?_, hu4.putB (.inr (by rw [h.o_head]; simp)) _⟩
    · rw [hlen, hrow]
      exact row_keep h4 fun g hg => putB_other (fun e => by have := h6' g hg; omega) _
    · rw [putB_other hbx, hold4 b (h.lt b hb)]
    · right
      cases ho : own b with
      | none => rfl
      | some T => have := h.lt b (by rw [ho]; simp); have := h6' b hb; omega
    · by_cases e : v4.ownBlock = some b
      · exact .inr (h6' b e)
      · simp only [if_neg e] at hb; exact .inl hb
end
end Go.Proofs.Ytaniphdbebdhhaa
