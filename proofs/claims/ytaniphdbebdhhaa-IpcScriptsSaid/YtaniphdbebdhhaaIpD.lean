/-
  The document's Line and Close; the program's Close. No condition.
-/
import Derived.Test.YtaniphdbebdhhaaIpA
namespace Go.Proofs.Ytaniphdbebdhhaa.Ipc
open Go.Vk Vk.Ipc

section
variable {own : Nat → Option DTag} {w : World} {x : Nat} {R : RB} {pv wv : Value}

def lineTo (R : RB) (i : Int) (k : Nat) : List Int := ((R.W.take k).filter fun x => x.pl == i).map (·.th)
theorem lineTo_succ (R : RB) (i : Int) {k : Nat} (hk : k < R.W.length) : lineTo R i (k + 1) = lineTo R i k ++ if R.W[k].pl = i then [R.W[k].th] else [] := by
  unfold lineTo
  rw [List.take_succ_eq_append_getElem hk, List.filter_append, List.map_append]
  by_cases e : R.W[k].pl = i <;> simp [e]
theorem lineTo_len (R : RB) (i : Int) (k : Nat) : (lineTo R i k).length ≤ R.W.length := by
  unfold lineTo
  rw [List.length_map]
  exact Nat.le_trans (List.length_filter_le _ _) (by simp; omega)

set_option maxRecDepth 100000 in
theorem DLine (h : DocAt own w x R pv wv) (hb1 : R.P.length < 1000000000) (hb2 : R.W.length < 1000000000) (i : Int) :
    Calls Try.prog 117 #[.pointer (some ⟨x, 0, none⟩), .int .i64 i] w fun en w' => ∃ v, en = .returned (.tuple #[v, .int .i64 (R.line i).2]) ∧ Upd (fun _ => False) w w' ∧
      w'.ownsRow 0 3 1 v (R.line i).1.length (nums (R.line i).1) ∧ (∀ b, v.ownBlock = some b → w.heap.size ≤ b) := by
  apply vk117
  unfold vc117
  refine callK_of (place103 h hb1 i) ?_
  rintro r w2 ⟨rfl, rfl⟩
  refine ⟨_, rfl, ?_⟩
  unfold RB.line
  cases he : R.place i with
  | none =>
    simp [idxI]
    exact ⟨Upd.refl _ _, World.ownsRow_nil w2 0 3 1, fun b hb => by simp [Value.ownBlock] at hb⟩
  | some k0 =>
    have h0 : ¬ (k0 : Int) < 0 := by omega
    simp [idxI, h0]
    obtain ⟨inf, hi1, hi2, hi3, hi4⟩ := int_info
    obtain ⟨a0, c0, hv0⟩ := row_slice h.ws
    refine loopK2 (fun m v7 v8 w' => ∃ k : Nat, k ≤ R.W.length ∧ v8 = .int .i64 k ∧ m = R.W.length - k ∧ Upd (fun _ => False) w2 w' ∧ w'.ownsRow 0 3 1 v7 (lineTo R i k).length (nums (lineTo R i k)) ∧ ∀ b, v7.ownBlock = some b → w2.heap.size ≤ b)
      R.W.length ⟨0, by omega, rfl, by omega, Upd.refl _ _, World.ownsRow_nil w2 0 3 1, fun b hb => by simp [Value.ownBlock] at hb⟩ ?_
    rintro m v7 v8 w' ⟨k, hk, rfl, rfl, hu, hrow, hvb⟩
    have hA := h.upd hu
    have hhead := hA.head
    by_cases hlt : k < R.W.length
    · obtain ⟨g, cap, rest, rfl, hg, hgx, _⟩ := hA.openW hlt
      have hc := (rw_get R.W rest hlt).1
      have hc1 := (rw_get R.W rest hlt).2.1
      have hw : IntKind.i64.wrap ((k : Int) + 1) = ((k + 1 : Nat) : Int) := by rw [wrap_i64 (by omega) (by omega)]; rfl
      generalize (R.W.flatMap rwCells ++ rest).toArray = cs at *
      have hll := lineTo_len R i k
      simp [hhead, hlt]
      apply joinK_now
      by_cases e : R.W[k].pl = i
      · simp [hhead, hlt, hg, hc, hc1, e, bs69]
        have hrow1 : (w'.alloc (.cells #[.int .i64 R.W[k].th] 3)).ownsRow 0 3 1 v7 (lineTo R i k).length (nums (lineTo R i k)) := row_keep hrow fun g hg => alloc_old (row_lt hrow hg) _
        refine opK_append1 Try.underlying69 hi1 hi2 hi3 hi4 rfl (by omega) hrow1 (alloc_new _ _) (m := 1) rfl (by simp) (by simp [maxLen]; omega) (by omega) ?_
        intro v' w3 h1 h2 h3
        simp [hw, -Int.natCast_add]
        refine ⟨R.W.length - (k + 1), by omega, k + 1, by omega, rfl, rfl, ?_, ?_, fun b hb => ?_⟩
        · exact ((hu.alloc _)).trans (Upd.grown (F := fun b => w2.heap.size ≤ b) h2 fun b hb => hvb b hb) fun b hb hb2 => by omega
        · rw [lineTo_succ R i hlt, if_pos e]
          simpa [nums] using h1
        · rcases h3 b hb with h4 | h4
          · exact hvb b h4
          · have := hu.size; simp at h4; omega
      · simp [hg, hc, e, hw, -Int.natCast_add]
        refine ⟨R.W.length - (k + 1), by omega, k + 1, by omega, rfl, rfl, hu, ?_, hvb⟩
        rw [lineTo_succ R i hlt, if_neg e, List.append_nil]
        exact hrow
    · have hkl : k = R.W.length := by omega
      simp [hhead, hlt, hv0]
      have hL : lineTo R i k = (R.W.filter fun x => x.pl == i).map (·.th) := by unfold lineTo; rw [hkl, List.take_length]
      rw [hL] at hrow
      exact ⟨hu, by simpa using hrow, hvb⟩

theorem cancel_P (R : RB) (t : Int) : (R.cancel t).2.P = R.P := by unfold RB.cancel; split <;> rfl
theorem cancel_len (R : RB) (t : Int) : (R.cancel t).2.W.length ≤ R.W.length := by
  unfold RB.cancel
  split
  · exact Nat.le_refl _
  · simp only [RB.drop, List.length_append, List.length_take, List.length_drop]; omega
theorem cancels_P : ∀ (l : List Int) (R : RB), (cancels R l).P = R.P
  | [], _ => rfl
  | t :: l, R => (cancels_P l _).trans (cancel_P R t)
theorem cancels_len : ∀ (l : List Int) (R : RB), (cancels R l).W.length ≤ R.W.length
  | [], _ => Nat.le_refl _
  | t :: l, R => Nat.le_trans (cancels_len l _) (cancel_len R t)
theorem cancels_snoc : ∀ (l : List Int) (R : RB) (t : Int), cancels R (l ++ [t]) = ((cancels R l).cancel t).2
  | [], _, _ => rfl
  | a :: l, R, t => cancels_snoc l (R.cancel a).2 t

set_option maxRecDepth 100000 in
set_option maxHeartbeats 1000000 in
theorem DClose (h : DocAt own w x R pv wv) (hb1 : R.P.length < 1000000000) (hb2 : R.W.length < 1000000000) (i : Int) :
    Calls Try.prog 116 #[.pointer (some ⟨x, 0, none⟩), .int .i64 i] w fun en w' => ∃ v own', en = .returned (.tuple #[v, .int .i64 (R.close i).1.2]) ∧ DocIn own' w' x (R.close i).2 ∧ (∀ b, own' b ≠ none → own b ≠ none ∨ w.heap.size ≤ b) ∧ Upd (fun b => own b ≠ none) w w' ∧
      w'.ownsRow 0 3 1 v (R.close i).1.1.length (nums (R.close i).1.1) ∧ (∀ b, v.ownBlock = some b → w.heap.size ≤ b ∧ own' b = none) := by
  apply vk116
  unfold vc116
  refine callK_of (DLine h hb1 hb2 i) ?_
  rintro r w2 ⟨v, rfl, hu, hrow, hvb⟩
  refine ⟨_, rfl, ?_⟩
  have hA := h.upd hu
  unfold RB.close
  unfold RB.line at hrow ⊢
  cases he : R.place i with
  | none =>
    simp [he] at hrow ⊢
    refine ⟨own, hA.next.choose_spec.1 |> fun _ => ⟨_, _, hA⟩, fun _ hb => .inl hb, hu.mono fun _ f => f.elim, World.ownsRow_nil w2 0 3 1, fun b hb => by simp [Value.ownBlock] at hb⟩
  | some k0 =>
    simp only [he] at hrow ⊢
    generalize hl : (R.W.filter fun x => x.pl == i).map (·.th) = l at *
    have hll : l.length ≤ R.W.length := by rw [← hl, List.length_map]; exact List.length_filter_le _ _
    obtain ⟨a0, c0, hv0⟩ := row_slice hrow
    have hwown : ∀ b, v.ownBlock = some b → own b = none := fun b hb => h.new (hvb b hb)
    simp
    refine loopK1 (fun m v8 w' => ∃ k : Nat, k ≤ l.length ∧ v8 = .int .i64 k ∧ m = l.length - k ∧ DocNext own w2 w' x (cancels R (l.take k))) l.length ⟨0, by omega, rfl, by omega, by simpa [cancels] using hA.next⟩ ?_
    rintro m v8 w' ⟨k, hk, rfl, rfl, hn⟩
    obtain ⟨own1, ⟨pv1, wv1, hB⟩, n2, n3⟩ := hn
    have hrow' : w'.ownsRow 0 3 1 v l.length (nums l) := row_keep hrow fun g hg => n3.old g (row_lt hrow hg) (by rw [hwown g hg]; simp)
    have hcl := cancels_len (l.take k) R
    have hcp := cancels_P (l.take k) R
    have hv1 : ∀ b, v.ownBlock = some b → own1 b = none := fun b hb => by
      cases e : own1 b with
      | none => rfl
      | some T =>
        rcases n2 b (by rw [e]; simp) with h4 | h4
        · exact absurd (hwown b hb) h4
        · have := row_lt hrow hb; omega
    by_cases hlt : k < l.length
    · have hw : IntKind.i64.wrap ((k : Int) + 1) = ((k + 1 : Nat) : Int) := by rw [wrap_i64 (by omega) (by omega)]; rfl
      rcases row_open hrow' with ⟨_, h0, _⟩ | ⟨g, cap, rest, hve, hg, _⟩
      · omega
      have hc := rowcell (rest := rest) hlt
      subst hve
      simp [hlt, hg, hc]
      refine callK_of (DCancel hB (by omega) l[k]) ?_
      rintro r w3 ⟨rfl, hn3⟩
      refine ⟨_, rfl, ?_⟩
      simp [hw, -Int.natCast_add]
      refine ⟨l.length - (k + 1), by omega, k + 1, by omega, rfl, rfl, ?_⟩
      rw [List.take_succ_eq_append_getElem hlt, cancels_snoc]
      obtain ⟨own3, k1, k2, k3⟩ := hn3
      refine ⟨own3, k1, fun b hb => ?_, n3.trans k3 fun b hb hc => ?_⟩
      · rcases k2 b hb with e | e
        · exact n2 b e
        · exact .inr (Nat.le_trans n3.size e)
      · rcases n2 b hc with e | e
        · exact e
        · omega
    · have hkl : k = l.length := by omega
      subst hkl
      rw [List.take_length] at hB hcl hcp
      have hlt2 : ¬ (l.length : Int) < l.length := by omega
      rw [hv0]
      simp
      refine callK_of (place103 hB (by rw [hcp]; exact hb1) i) ?_
      rintro r w3 ⟨rfl, rfl⟩
      refine ⟨_, rfl, ?_⟩
      have hpl : (cancels R l).place i = some k0 := by unfold RB.place at *; rw [hcp]; exact he
      have hk0 : k0 < (cancels R l).P.length := findI_lt' hpl
      obtain ⟨inf, hi1, hi2, hi3, hi4⟩ := rp_info
      obtain ⟨g, cap, rest, rfl, hg, hgx, hgo, hnc, hcm, hsz⟩ := hB.openP hk0
      have hic : (k0 : Int) ≤ cap := by omega
      have hPl : (cancels R l).P.length < 1000000000 := by rw [hcp]; exact hb1
      simp [hpl, idxI, hB.head, hic]
      have hxl := hB.in hB.o_head
      have hgl := blk_lt hg
      refine opK_appendN (z := 3) Try.underlying56 hi1 hi2 hi3 hi4 (by rfl) (by omega) (World.ownsRow_nil w3 0 189 3) (news := ((cancels R l).P.take k0).flatMap rpCells) (news_take hg) (by rw [flat_len rp_len]; simp; omega) (ones_of rp_one _) (by simp [maxLen]; omega) (by omega) ?_
      intro v3 w4 h1 h2 h3
      have hold3 : ∀ b, b < w3.heap.size → w4.heap[b]? = w3.heap[b]? := fun b hb => h2.block b hb (by simp [Value.ownBlock])
      have hx3 := (hold3 x hxl).trans hB.head
      have hg3 := (hold3 g hgl).trans hg
      have hw1 : IntKind.i64.wrap ((k0 : Int) + 1) = ((k0 + 1 : Nat) : Int) := by rw [wrap_i64 (by omega) (by omega)]; rfl
      have hlo : ((k0 + 1 : Nat) : Int) ≤ (cancels R l).P.length := by omega
      have hlo0 : (0 : Int) ≤ ((k0 + 1 : Nat) : Int) := by omega
      simp [hx3, hw1, -Int.natCast_add]
      rw [opK_sl_lo_56 _ _ _ _ _ hlo0 hlo]
      simp only [Int.toNat_natCast]
      refine opK_appendN (z := 3) Try.underlying56 hi1 hi2 hi3 hi4 (by rfl) (by omega) h1 (news := ((cancels R l).P.drop (k0 + 1)).flatMap rpCells) (news_drop rp_len hg3 (by omega) hnc) (by rw [flat_len rp_len]; simp) (ones_of rp_one _) (by simp [maxLen]; omega) (by omega) ?_
      intro v4 w5 h4 h5 h6
      have hs3 : w3.heap.size ≤ w4.heap.size := h2.size
      have hs4 : w4.heap.size ≤ w5.heap.size := h5.size
      have h3' : ∀ b, v3.ownBlock = some b → w3.heap.size ≤ b := fun b hb => by
        rcases h3 b hb with h | h
        · simp [Value.ownBlock] at h
        · exact h
      have h6' : ∀ b, v4.ownBlock = some b → w3.heap.size ≤ b := fun b hb => by
        rcases h6 b hb with h | h
        · exact h3' b h
        · omega
      have hold4 : ∀ b, b < w3.heap.size → w5.heap[b]? = w3.heap[b]? := fun b hb => by
        rw [h5.block b (by omega) (fun e => by have := h3' b e.symm; omega), hold3 b hb]
      have hx4 := (hold4 x hxl).trans hB.head
      have hu4 : Upd (fun _ => False) w3 w5 := ⟨h5.os.trans h2.os, h5.tape.trans h2.tape, h5.output.trans h2.output, by omega, fun b hb _ => hold4 b hb⟩
      have hrowP : w5.ownsRow 0 189 3 v4 ((cancels R l).P.take k0 ++ (cancels R l).P.drop (k0 + 1)).length (((cancels R l).P.take k0 ++ (cancels R l).P.drop (k0 + 1)).flatMap rpCells) := by
        have hlen : ((cancels R l).P.take k0 ++ (cancels R l).P.drop (k0 + 1)).length = 0 + k0 + ((cancels R l).P.length - (k0 + 1)) := by simp; omega
        rw [hlen, List.flatMap_append]
        simpa using h4
      obtain ⟨own5, p1, p2, p3⟩ := hB.freshP (v' := v4) hrowP (hu4.mono fun _ f => f.elim) fun b hb => .inr (h6' b hb)
      simp [hx4, row_one h4]
      rw [← hv0]
      have hrow5 : (putB w5 x (.cells #[v4, wv1] 59 (0, 0))).ownsRow 0 3 1 v l.length (nums l) := row_keep hrow' fun g2 hg2 => p3.old g2 (row_lt hrow' hg2) (by rw [hv1 g2 hg2]; simp)
      refine ⟨own5, ?_, fun b hb => ?_, ?_, hrow5, fun b hb => ⟨hvb b hb, ?_⟩⟩
      · rw [hcp] at p1
        exact p1
      · rcases p2 b hb with e | e
        · rcases n2 b e with e2 | e2
          · exact .inl e2
          · exact .inr (Nat.le_trans hu.size e2)
        · exact .inr (Nat.le_trans hu.size (Nat.le_trans n3.size e))
      · refine ((hu.mono fun _ f => f.elim).trans n3 fun _ _ hh => hh).trans p3 fun b hb hc => ?_
        rcases n2 b hc with e | e
        · exact e
        · have := hu.size; omega
      · cases e : own5 b with
        | none => rfl
        | some T =>
          rcases p2 b (by rw [e]; simp) with e2 | e2
          · exact absurd (hv1 b hb) e2
          · have := row_lt hrow' hb; omega
end

section
variable {own : Nat → Option BTag} {w : World} {x : Nat} {S : PB} {m1 m2 : Nat} {l1 : List Ent3} {c1 : Nat} {l2 : List Ent3} {c2 : Nat} {pb : Int → Nat} {lv : Int → Value}

def lessTo (S : PB) (l : List Int) : PB := { S with wher := fun t => if t ∈ l then none else S.wher t }

set_option maxRecDepth 100000 in
set_option maxHeartbeats 1000000 in
theorem Close_calls (h : BusAt own w x S m1 m2 l1 c1 l2 c2 pb lv) (hq : ∀ i p, S.places i = some p → p.line.length < 1000000000) (i : Int) :
    Calls Try.prog 115 #[.pointer (some ⟨x, 0, none⟩), .int .i64 i] w fun en w' => ∃ v own', en = .returned (.tuple #[v, .int .i64 (S.close i).1.2]) ∧ BusIn own' w' x (S.close i).2 ∧ (∀ b, own' b ≠ none → own b ≠ none ∨ w.heap.size ≤ b) ∧ Upd (fun b => own b ≠ none) w w' ∧
      w'.ownsRow 0 3 1 v (S.close i).1.1.length (nums (S.close i).1.1) ∧ (∀ b, v.ownBlock = some b → w.heap.size ≤ b ∧ own' b = none) := by
  apply vk115
  unfold vc115
  refine callK_of (Line_calls h hq i) ?_
  rintro r w2 ⟨v, rfl, hu, hrow, hvb⟩
  refine ⟨_, rfl, ?_⟩
  have hA := h.upd hu
  unfold PB.close
  unfold PB.line at hrow ⊢
  cases hp : S.places i with
  | none =>
    simp [hp] at hrow ⊢
    exact ⟨own, ⟨_, _, _, _, _, _, _, _, hA⟩, fun _ hb => .inl hb, hu.mono fun _ f => f.elim, World.ownsRow_nil w2 0 3 1, fun b hb => by simp [Value.ownBlock] at hb⟩
  | some p =>
    simp only [hp] at hrow ⊢
    have hpl := hq i p hp
    generalize hl : p.line.map (·.th) = l at *
    have hll : l.length < 1000000000 := by rw [← hl, List.length_map]; exact hpl
    obtain ⟨a0, c0, hv0⟩ := row_slice hrow
    have hwown : ∀ b, v.ownBlock = some b → own b = none := fun b hb => h.new (hvb b hb)
    rw [hv0]
    simp
    rw [← hv0]
    refine loopK1 (fun m v8 w' => ∃ k : Nat, k ≤ l.length ∧ v8 = .int .i64 k ∧ m = l.length - k ∧ (∃ l2', BusAt own w' x (lessTo S (l.take k)) m1 m2 l1 c1 l2' c2 pb lv) ∧ Upd (fun b => b = m2) w2 w') l.length
      ⟨0, by omega, rfl, by omega, ⟨l2, by simpa [lessTo] using hA⟩, Upd.refl _ _⟩ ?_
    rintro m v8 w' ⟨k, hk, rfl, rfl, ⟨l2', hB⟩, n3⟩
    have hrow' : w'.ownsRow 0 3 1 v l.length (nums l) := row_keep hrow fun g hg => n3.old g (row_lt hrow hg) (fun e => by have := hwown g hg; rw [e, h.o_m2] at this; cases this)
    by_cases hlt : k < l.length
    · have hw : IntKind.i64.wrap ((k : Int) + 1) = ((k + 1 : Nat) : Int) := by rw [wrap_i64 (by omega) (by omega)]; rfl
      rcases row_open hrow' with ⟨_, h0, _⟩ | ⟨g, cap, rest, hve, hg, _⟩
      · omega
      have hc := rowcell (rest := rest) hlt
      rw [hve]
      simp [hlt, hg, hc, hB.head, del124 hB.map2, hw, -Int.natCast_add]
      have hD := hB.setWhere (w' := putB w' m2 (.map (ents (mdel l[k] l2')) c2)) (f := fun t => if t ∈ l.take (k + 1) then none else S.wher t) (l2' := mdel l[k] l2') (c2' := c2) (putB_same (hB.in hB.o_m2) _) (mdel_nodup hB.nd2 _) (fun u => by
          have hmem : u ∈ l.take (k + 1) ↔ u ∈ l.take k ∨ u = l[k] := by
            rw [List.take_succ_eq_append_getElem hlt]
            simp only [List.mem_append, List.mem_singleton]
          rw [mget_mdel hB.nd2]
          simp only [hmem]
          by_cases e : u = l[k]
          · rw [if_pos e, if_pos (.inr e)]; rfl
          · rw [if_neg e, hB.k2]
            simp only [lessTo, e, or_false]) (fun b T hb hT => putB_other (hB.ne hb hB.o_m2 hT) _) (by simp)
      exact ⟨l.length - (k + 1), by omega, k + 1, by omega, rfl, rfl, ⟨_, hD⟩, n3.putB (.inr rfl) _⟩
    · have hkl : k = l.length := by omega
      subst hkl
      rw [List.take_length] at hB
      simp [hB.head, del123 hB.map1]
      have hm1 := hB.in hB.o_m1
      have hD := hB.delPlace (w' := putB w' m1 (.map (ents (mdel i l1)) c1)) i (putB_same hm1 _) (fun b T hb hT => putB_other (hB.ne hb hB.o_m1 hT) _) (by simp)
      refine ⟨own, ⟨_, _, _, _, _, _, _, _, hD⟩, fun _ hb => .inl hb, ?_, row_keep hrow' fun g hg => putB_other (fun e => by have := hwown g hg; rw [e, h.o_m1] at this; cases this) _, fun b hb => ⟨hvb b hb, hwown b hb⟩⟩
      exact ((hu.mono fun _ f => f.elim).trans (n3.mono fun b hb => by rw [hb, h.o_m2]; simp) fun _ _ hh => hh).putB (.inr (by rw [h.o_m1]; simp)) _
end
end Go.Proofs.Ytaniphdbebdhhaa.Ipc
