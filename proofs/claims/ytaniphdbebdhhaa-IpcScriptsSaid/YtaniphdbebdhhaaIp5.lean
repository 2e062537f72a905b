/-
  Contracts of the bus's inner calls: at, gets, first, wait; and of New, Open, Word. No condition.
-/
import Derived.Test.YtaniphdbebdhhaaIp4
namespace Go.Proofs.Ytaniphdbebdhhaa.Ipc
open Go.Vk Vk.Ipc

theorem under123 : Try.prog.underlying 123 = some (.map 3 127) := by kernel_rfl
theorem under124 : Try.prog.underlying 124 = some (.map 3 3) := by kernel_rfl
theorem zero127 (w : World) : (zeroValue 127).run Try.prog w = .ok (.pointer none) w := by kernel_rfl
theorem zero3' (w : World) : (zeroValue 3).run Try.prog w = .ok (.int .i64 0) w := by kernel_rfl

section
variable {w : World} {m : Nat} {l : List Ent3} {c : Nat}
theorem look123 (h : w.heap[m]? = some (.map (ents l) c)) (t : Int) (ty : TypeId) (K : Value → World → Prop) :
    opK Try.prog (.lookup 123 (.const (.map (some m))) (.const (.int .i64 t)) false) ty w K = K ((mget l t).getD (.pointer none)) w := opK_of (run_lookup under123 under3 zero127 h t ty) rfl
theorem look124 (h : w.heap[m]? = some (.map (ents l) c)) (t : Int) (ty : TypeId) (K : Value → World → Prop) :
    opK Try.prog (.lookup 124 (.const (.map (some m))) (.const (.int .i64 t)) true) ty w K = K (.tuple #[(mget l t).getD (.int .i64 0), .bool (mget l t).isSome]) w := opK_of (run_lookup_ok under124 under3 zero3' h t ty) rfl
theorem slook124 (h : w.heap[m]? = some (.map (ents l) c)) (t : Int) (ty : TypeId) (K : Value → Prop) :
    stK Try.prog (.lookup 124 (.const (.map (some m))) (.const (.int .i64 t)) true) ty w K = K (.tuple #[(mget l t).getD (.int .i64 0), .bool (mget l t).isSome]) := stK_of (run_lookup_ok under124 under3 zero3' h t ty) rfl
theorem upd123 (h : w.heap[m]? = some (.map (ents l) c)) (t : Int) (v : Value) (ty : TypeId) (K : Value → World → Prop) :
    opK Try.prog (.mapUpdate 123 (.const (.map (some m))) (.const (.int .i64 t)) (.const v)) ty w K = K undef (putB w m (.map (ents (mput l c t v)) (mclk l c t))) := opK_skip (run_mapUpdate under123 under3 h t v ty) rfl
theorem upd124 (h : w.heap[m]? = some (.map (ents l) c)) (t : Int) (v : Value) (ty : TypeId) (K : Value → World → Prop) :
    opK Try.prog (.mapUpdate 124 (.const (.map (some m))) (.const (.int .i64 t)) (.const v)) ty w K = K undef (putB w m (.map (ents (mput l c t v)) (mclk l c t))) := opK_skip (run_mapUpdate under124 under3 h t v ty) rfl
theorem del123 (h : w.heap[m]? = some (.map (ents l) c)) (t : Int) (T2 ty : TypeId) (K : Value → World → Prop) :
    opK Try.prog (.call ⟨.builtin .delete, #[.const (.map (some m)), .const (.int .i64 t)], #[123, T2]⟩) ty w K = K (.tuple #[]) (putB w m (.map (ents (mdel t l)) c)) := opK_of (run_delete under123 under3 h t T2 ty) rfl
theorem del124 (h : w.heap[m]? = some (.map (ents l) c)) (t : Int) (T2 ty : TypeId) (K : Value → World → Prop) :
    opK Try.prog (.call ⟨.builtin .delete, #[.const (.map (some m)), .const (.int .i64 t)], #[124, T2]⟩) ty w K = K (.tuple #[]) (putB w m (.map (ents (mdel t l)) c)) := opK_of (run_delete under124 under3 h t T2 ty) rfl
end

theorem one (w : World) (o : Obj) : ∃ W, w.alloc o = W ∧ Upd (fun _ => False) w W ∧ W.heap[w.heap.size]? = some o ∧ W.heap.size = w.heap.size + 1 :=
  ⟨_, rfl, (Upd.refl _ w).alloc _, alloc_new _ _, by simp⟩
theorem two (w : World) (o o2 : Obj) : ∃ W, (w.alloc o).alloc o2 = W ∧ Upd (fun _ => False) w W ∧ W.heap[w.heap.size]? = some o ∧ W.heap[w.heap.size + 1]? = some o2 ∧ W.heap.size = w.heap.size + 2 :=
  ⟨_, rfl, ((Upd.refl _ w).alloc _).alloc _, by rw [alloc_old (by simp)]; exact alloc_new _ _, by
    have := alloc_new (w.alloc o) o2
    rwa [show (w.alloc o).heap.size = w.heap.size + 1 by simp] at this, by simp⟩

section
variable {own : Nat → Option BTag} {w : World} {x : Nat} {S : PB} {m1 m2 : Nat} {l1 : List Ent3} {c1 : Nat} {l2 : List Ent3} {c2 : Nat} {pb : Int → Nat} {lv : Int → Value}

theorem BusAt.none1 (h : BusAt own w x S m1 m2 l1 c1 l2 c2 pb lv) {i : Int} (e : S.places i = none) : (mget l1 i).getD (.pointer none) = .pointer none := by rw [h.k1, e]; rfl
theorem BusAt.some1 (h : BusAt own w x S m1 m2 l1 c1 l2 c2 pb lv) {i : Int} {p : Pl} (e : S.places i = some p) : (mget l1 i).getD (.pointer none) = .pointer (some ⟨pb i, 0, none⟩) := by rw [h.k1, e]; rfl
theorem BusAt.none2 (h : BusAt own w x S m1 m2 l1 c1 l2 c2 pb lv) {t : Int} (e : S.wher t = none) : mget l2 t = none := by rw [h.k2, e]; rfl
theorem BusAt.some2 (h : BusAt own w x S m1 m2 l1 c1 l2 c2 pb lv) {t i : Int} (e : S.wher t = some i) : mget l2 t = some (.int .i64 i) := by rw [h.k2, e]; rfl
theorem BusAt.cells (h : BusAt own w x S m1 m2 l1 c1 l2 c2 pb lv) {i : Int} {p : Pl} (e : S.places i = some p) : w.heap[pb i]? = some (.cells #[.bool p.bell, lv i, .int .u32 p.word] 132 (0, 0)) := h.place i p e
/-- No block plays two parts. -/
theorem BusAt.ne (_ : BusAt own w x S m1 m2 l1 c1 l2 c2 pb lv) {b c : Nat} {T U : BTag} (h1 : own b = some T) (h2 : own c = some U) (hn : T ≠ U) : b ≠ c := fun e => by
  subst e; rw [h1] at h2; exact hn (Option.some.inj h2)
theorem BusAt.in {b : Nat} {T : BTag} (h : BusAt own w x S m1 m2 l1 c1 l2 c2 pb lv) (hb : own b = some T) : b < w.heap.size := h.lt b (by rw [hb]; simp)

def atV (S : PB) (pb : Int → Nat) (i : Int) (bell : Bool) (t : Int) : Value := match S.at i bell t with
  | (e, none) => .tuple #[.pointer none, .int .i64 e]
  | (e, some _) => .tuple #[.pointer (some ⟨pb i, 0, none⟩), .int .i64 e]

set_option maxRecDepth 100000 in
theorem at104 (h : BusAt own w x S m1 m2 l1 c1 l2 c2 pb lv) (i : Int) (bell : Bool) (t : Int) :
    Calls Try.prog 104 #[.pointer (some ⟨x, 0, none⟩), .int .i64 i, .bool bell, .int .i64 t] w fun en w' => en = .returned (atV S pb i bell t) ∧ w' = w := by
  apply vk104
  unfold atV PB.at
  cases hp : S.places i with
  | none => simp [vc104, h.head, look123 h.map1, h.none1 hp]
  | some p =>
    by_cases hb : p.bell = bell
    · cases hw : S.wher t with
      | none => simp [vc104, h.head, look123 h.map1, look124 h.map2, h.some1 hp, h.cells hp, hb, h.none2 hw]
      | some j => simp [vc104, h.head, look123 h.map1, look124 h.map2, h.some1 hp, h.cells hp, hb, h.some2 hw]
    · simp [vc104, h.head, look123 h.map1, h.some1 hp, h.cells hp, hb]

set_option maxRecDepth 100000 in
theorem Word_calls (h : BusAt own w x S m1 m2 l1 c1 l2 c2 pb lv) (i : Int) :
    Calls Try.prog 23 #[.pointer (some ⟨x, 0, none⟩), .int .i64 i] w fun en w' => en = .returned (.tuple #[.int .u32 (S.wordOf i).1, .int .i64 (S.wordOf i).2]) ∧ w' = w := by
  apply vk23
  unfold PB.wordOf
  cases hp : S.places i with
  | none => simp [vc23, h.head, look123 h.map1, h.none1 hp]
  | some p => cases hb : p.bell <;> simp [vc23, h.head, look123 h.map1, h.some1 hp, h.cells hp, hb]

def getsL : List Wt → Bool
  | [] => false
  | a :: _ => a.how == 4

set_option maxRecDepth 100000 in
theorem gets105 (h : BusAt own w x S m1 m2 l1 c1 l2 c2 pb lv) {i : Int} {p : Pl} (hp : S.places i = some p) :
    Calls Try.prog 105 #[.pointer (some ⟨pb i, 0, none⟩)] w fun en w' => en = .returned (.bool (getsL p.line)) ∧ Upd (fun _ => False) w w' := by
  apply vk105
  unfold vc105
  have hrow := h.line i p hp
  obtain ⟨a0, c0, hv0⟩ := row_slice hrow
  have hc := h.cells hp
  simp
  refine callK_of (Len_calls (o := 1) hc (by rw [hv0]; rfl)) ?_
  rintro r w2 ⟨rfl, rfl⟩
  refine ⟨_, rfl, ?_⟩
  cases hl : p.line with
  | nil => simp [getsL]; exact Upd.refl _ _
  | cons a l =>
    have h0 : (0 : Int) < ((a :: l).length : Nat) := by simp
    simp [-List.length_cons]
    rw [hl] at hrow
    refine callK_of (First_calls (o := 1) hc rfl hrow) ?_
    rintro r w3 ⟨rfl, hu⟩
    refine ⟨_, rfl, ?_⟩
    simp [f135_1, getsL]
    exact hu

set_option maxRecDepth 100000 in
theorem first59 (h : BusAt own w x S m1 m2 l1 c1 l2 c2 pb lv) {i : Int} {p : Pl} (hp : S.places i = some p) {a : Wt} {l : List Wt} (hl : p.line = a :: l) :
    Calls Try.prog 59 #[.pointer (some ⟨x, 0, none⟩), .pointer (some ⟨pb i, 0, none⟩)] w fun en w' => en = .returned (wtV a) ∧ BusNext own w w' x (S.pop i p a l) := by
  apply vk59
  unfold vc59
  obtain ⟨W, hW, hu, f0, hs⟩ := one w (.cells zero135 135)
  have hA := h.upd hu
  simp [hW]
  have hrow := hA.line i p hp
  rw [hl] at hrow
  have hxp : (lv i).ownBlock ≠ some (pb i) := fun e => h.ne (h.o_line i p hp _ e) (h.o_place i p hp) (by simp) rfl
  refine callK_of (pop102 (hA.cells hp) hrow (o := 1) rfl hxp) ?_
  rintro r w2 ⟨rfl, v', g1, g2, g3, g4⟩
  refine ⟨_, rfl, ?_⟩
  have hsz2 := g3.size
  have hB := hA.setPlace (w' := w2) (own' := own) (p' := { p with line := l }) (v' := v') hp g1 g2 (fun b T hb h1 h2 => g3.old b (hA.in hb) (by
      rintro (hc | hc)
      · rw [hA.o_line i p hp b hc] at hb; simp at hb; exact h2 hb.symm
      · rw [hc, hA.o_place i p hp] at hb; simp at hb; exact h1 hb.symm)) (fun _ _ h => h) (fun b hb => hA.o_line i p hp b (by rw [← g4]; exact hb)) (fun b hb => Nat.lt_of_lt_of_le (hA.lt b hb) g3.size)
  have f2 : w2.heap[w.heap.size]? = some (.cells zero135 135 (0, 0)) := (g3.old _ (by omega) (by
      rintro (hc | hc)
      · have := h.in (h.o_line i p hp _ hc); omega
      · have := h.in (h.o_place i p hp); omega)).trans f0
  obtain ⟨W3, hW3, hu3, k0, hs3⟩ := one w2 (.cells zero135 135)
  simp [hW3]
  have k1 := (hu3.old _ (blk_lt f2) fun f => f).trans f2
  have hwz := writeN_full zero135 (wtCells a) (by rw [z135]; rfl)
  have rd := readN_full (wtCells a) (wt_len a)
  have hC := hB.upd (hu3.putB (b := w2.heap.size) (.inl (Nat.le_refl _)) (.cells (wtCells a).toArray 135 (0, 0)))
  have k2 : (putB W3 w2.heap.size (.cells (wtCells a).toArray 135 (0, 0))).heap[w2.heap.size]? = some (.cells (wtCells a).toArray 135 (0, 0)) := putB_same (by omega) _
  have k3 : (putB W3 w2.heap.size (.cells (wtCells a).toArray 135 (0, 0))).heap[w.heap.size]? = some (.cells zero135 135 (0, 0)) := by rw [putB_other (by omega)]; exact k1
  have hs4 : (putB W3 w2.heap.size (.cells (wtCells a).toArray 135 (0, 0))).heap.size = w2.heap.size + 1 := by simp [hs3]
  have hwa := wt_get0 a
  have hu4 : Upd (fun b => own b ≠ none) w (putB W3 w2.heap.size (.cells (wtCells a).toArray 135 (0, 0))) := ((hu.mono fun _ f => f.elim).trans (G := fun b => own b ≠ none) (g3.mono fun b hb => by
      rcases hb with hc | hc
      · rw [h.o_line i p hp b hc]; simp
      · rw [hc, h.o_place i p hp]; simp) fun _ _ hh => hh).trans (hu3.putB (b := w2.heap.size) (.inl (Nat.le_refl _)) _) fun _ _ f => f.elim
  refine full135 (o := a) k0 z135 ?_
  generalize hW4 : putB W3 w2.heap.size (.cells (wtCells a).toArray 135 (0, 0)) = W4 at *
  have hm2W := hC.in hC.o_m2
  have hC' := hC.upd ((Upd.refl _ W4).drew)
  simp [hC.head, k2, hwa, del124 hC'.map2]
  have hm2 := h.in h.o_m2
  have j2 : ∀ o, (putB W4.drew m2 o).heap[w2.heap.size]? = some (.cells (wtCells a).toArray 135 (0, 0)) := fun o => (putB_other (by omega) _).trans k2
  have j3 : ∀ o, (putB W4.drew m2 o).heap[w.heap.size]? = some (.cells zero135 135 (0, 0)) := fun o => (putB_other (by omega) _).trans k3
  simp [j2, j3, rd]
  refine exitO135 (o := a) (j3 _) z135 ⟨rfl, own, ?_, fun _ hb => .inl hb, ?_⟩
  · have hD := hC.setWhere (w' := putB (putB W4.drew m2 (.map (ents (mdel a.th l2)) c2)) w.heap.size (.cells (wtCells a).toArray 135 (0, 0))) (f := up S.wher a.th none) (l2' := mdel a.th l2) (c2' := c2)
      (by rw [putB_other (by omega)]; exact putB_same (by simpa using hm2W) _) (mdel_nodup h.nd2 _) (fun t => by
        rw [mget_mdel h.nd2]
        by_cases e : t = a.th
        · subst e; simp
        · rw [if_neg e, up_other _ _ _ _ e, h.k2]) (fun b T hb hT => by
        have := h.in hb
        rw [putB_other (by omega), putB_other (h.ne hb h.o_m2 hT)]; rfl) (by simp)
    exact ⟨_, _, _, _, _, _, _, _, hD⟩
  · exact (hu4.drew.putB (.inr (by rw [h.o_m2]; simp)) _).putB (.inl (Nat.le_refl _)) _

set_option maxRecDepth 100000 in
theorem wait107 (h : BusAt own w x S m1 m2 l1 c1 l2 c2 pb lv) {i : Int} {p : Pl} (hp : S.places i = some p) (hsmall : p.line.length < 1000000000) (a : Wt) :
    Calls Try.prog 107 #[.pointer (some ⟨x, 0, none⟩), .int .i64 i, wtV a] w fun en w' => en = .returned (outV Vk.Ipc.waiting) ∧ BusNext own w w' x (S.wait i p a) := by
  apply vk107
  unfold vc107
  obtain ⟨W, hW, hu, f0, f1, hs⟩ := two w (.cells (wtCells a).toArray 135) (.cells zero66 66)
  have hA := (h.upd hu).upd ((Upd.refl _ W).drew)
  have rd := readN_full (wtCells a) (wt_len a)
  have hwa := wt_get0 a
  simp only [opK_box, opK_alloc_66, size_alloc', wtV_cells, hW]
  have hA0 := h.upd hu
  simp [hA0.head, look123 hA0.map1, h.some1 hp, f0, rd]
  have hrow := hA.line i p hp
  have hxp : (lv i).ownBlock ≠ some (pb i) := fun e => h.ne (h.o_line i p hp _ e) (h.o_place i p hp) (by simp) rfl
  rw [show Value.agg (wtCells a).toArray = wtV a from rfl]
  refine callK_of (push132 (hA.cells hp) hrow (o := 1) rfl hxp hsmall a) ?_
  rintro r w2 ⟨rfl, v', g1, g2, g3, g4⟩
  refine ⟨_, rfl, ?_⟩
  have hsz2 : W.heap.size ≤ w2.heap.size := g3.size
  have hol : ∀ b T, own b = some T → T ≠ .place i → T ≠ .line i → w2.heap[b]? = W.heap[b]? := fun b T hb h1 h2 => g3.old b (hA.in hb) (by
      rintro (hc | hc)
      · rw [hA.o_line i p hp b hc] at hb; simp at hb; exact h2 hb.symm
      · rw [hc, hA.o_place i p hp] at hb; simp at hb; exact h1 hb.symm)
  have hnew : ∀ b, w.heap.size ≤ b → b < W.heap.size → w2.heap[b]? = W.heap[b]? := fun b hb hb2 => g3.old b hb2 (by
      rintro (hc | hc)
      · have := h.in (h.o_line i p hp _ hc); omega
      · have := h.in (h.o_place i p hp); omega)
  have hB := hA.setPlace (w' := w2) (own' := fun b => if v'.ownBlock = some b then some (.line i) else own b) (p' := { p with line := p.line ++ [a] }) (v' := v') hp g1 g2 hol (fun b T hb => by
      by_cases e : v'.ownBlock = some b
      · rw [if_pos e]
        rcases g4 b e with h1 | h1
        · rw [← hb]; exact (h.o_line i p hp b h1).symm
        · have := h.in hb; have h1' : W.heap.size ≤ b := h1; omega
      · rw [if_neg e]; exact hb) (fun b hb => if_pos hb) (fun b hb => by
      by_cases e : v'.ownBlock = some b
      · exact row_lt g2 e
      · simp only [if_neg e] at hb; exact Nat.lt_of_lt_of_le (hA.lt b hb) g3.size)
  have k0 := (hnew _ (Nat.le_refl _) (by omega)).trans f0
  have k1 := (hnew (w.heap.size + 1) (by omega) (by omega)).trans f1
  have hm2 := h.in h.o_m2
  have hB' := hB.upd ((Upd.refl _ w2).drew)
  simp [hB.head, k0, hwa, upd124 hB'.map2, b66w]
  have j1 : ∀ o, (putB w2.drew m2 o).heap[w.heap.size + 1]? = some (.cells zero66 66 (0, 0)) := fun o => (putB_other (by omega) _).trans k1
  refine exit66 (j1 _) z66 ⟨rfl, fun b => if v'.ownBlock = some b then some (.line i) else own b, ?_, ?_, ?_⟩
  · have hD := hB.setWhere (w' := putB (putB w2.drew m2 (.map (ents (mput l2 c2 a.th (.int .i64 i))) (mclk l2 c2 a.th))) (w.heap.size + 1) (.cells (outCells Vk.Ipc.waiting).toArray 66 (0, 0))) (f := up S.wher a.th (some i))
      (by rw [putB_other (by omega)]; exact putB_same (show m2 < w2.drew.heap.size from hB.in hB.o_m2) _) (mput_nodup h.nd2 _ _ _) (fun t => by
        rw [mget_mput]
        by_cases e : t = a.th
        · subst e; simp
        · rw [if_neg e, up_other _ _ _ _ e, h.k2]) (fun b T hb hT => by
        have h1 := hB.ne hb hB.o_m2 hT
        have h2 : b ≠ w.heap.size + 1 := fun e => by
          subst e
          by_cases e2 : v'.ownBlock = some (w.heap.size + 1)
          · rcases g4 _ e2 with h3 | h3
            · have := h.in (h.o_line i p hp _ h3); omega
            · have h3' : W.heap.size ≤ w.heap.size + 1 := h3; omega
          · simp only [if_neg e2] at hb
            have := h.in hb; omega
        rw [putB_other h2, putB_other h1]; rfl) (by simp)
    exact ⟨_, _, _, _, _, _, _, _, hD⟩
  · intro b hb
    by_cases e : v'.ownBlock = some b
    · rcases g4 b e with h1 | h1
      · left; rw [h.o_line i p hp b h1]; simp
      · right; have h1' : W.heap.size ≤ b := h1; omega
    · simp only [if_neg e] at hb; exact .inl hb
  · refine Upd.putB (Upd.putB (Upd.drew (((hu.mono fun _ f => f.elim).drew).trans (G := fun b => own b ≠ none) (g3.mono fun b hb => ?_) fun _ _ hh => hh)) (.inr (by rw [h.o_m2]; simp)) _) (.inl (by omega)) _
    rcases hb with hc | hc
    · rw [h.o_line i p hp b hc]; simp
    · rw [hc, h.o_place i p hp]; simp
end
end Go.Proofs.Ytaniphdbebdhhaa.Ipc
