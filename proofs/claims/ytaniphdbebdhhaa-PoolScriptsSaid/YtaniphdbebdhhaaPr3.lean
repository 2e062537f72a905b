/-
  Pages and untypeds: contracts of the document's Add, Remove. No condition beyond what each theorem names.
-/
import Derived.Test.YtaniphdbebdhhaaPr2
namespace Go.Proofs.Ytaniphdbebdhhaa.Pool
open Go.Vk Vk.Pool

section
variable {G : Nat → Prop} {w w' : World} {r : Nat} {R : RP} {ov gv : Value}

set_option maxRecDepth 100000 in
theorem RAdd_calls (h : RefAt G w r R ov gv) (o : Ob) (ho1 : -9223372036854775808 ≤ o.num) (ho2 : o.num ≤ 9223372036854775807) :
    Calls Try.prog 79 #[.pointer (some ⟨r, 0, none⟩), obV o] w fun en w' => en = .returned (.int .i64 (R.add o).1) ∧ PNext G w w' (RefH r (R.add o).2) := by
  apply vk79
  unfold vc79
  refine box84 o ?_
  intro W hu f0 hs
  have hA := h.same hu
  have hhead := hA.head
  by_cases k1 : o.kind < 1
  · have e : R.add o = (12, R) := by unfold RP.add; rw [if_pos (.inl k1)]
    rw [e]
    simp [f0, k1]
    exact h.stays hu
  by_cases k2 : 8 < o.kind
  · have e : R.add o = (12, R) := by unfold RP.add; rw [if_pos (.inr k2)]
    rw [e]
    simp [f0, k1, k2]
    exact h.stays hu
  by_cases n0 : o.num < 0
  · have e : R.add o = (1, R) := by unfold RP.add; rw [if_neg (by omega), if_pos (.inl n0)]
    rw [e]
    simp [f0, k1, k2, n0]
    exact h.stays hu
  have hdiv : IntKind.i64.wrap (o.num.tdiv 256) = o.num / 256 := by rw [Int.tdiv_eq_ediv_of_nonneg (by omega)]; exact wr (by omega) (by omega)
  by_cases hk : o.kind = 1 ∧ 8 < o.num / 256
  · have e : R.add o = (1, R) := by unfold RP.add; rw [if_neg (by omega), if_pos (.inr hk)]
    rw [e]
    simp [f0, k1, k2, n0, hk.1, hdiv, hk.2]
    exact h.stays hu
  have hO := O_len h.inv
  have hG := G_len h.inv
  have hR1 := h.inv.n1
  have hR2 := h.inv.n2
  obtain ⟨S, hS⟩ : ∃ S : Int, pages o = S := ⟨_, rfl⟩
  obtain ⟨B, hB⟩ : ∃ B : Int, first o = B := ⟨_, rfl⟩
  have hSB : 1 ≤ S ∧ S ≤ 256 ∧ 0 ≤ B ∧ B ≤ 9223372036854775807 := by
    rw [← hS, ← hB]
    unfold first pages
    split
    · have hp := pow8 (k := o.num / 256) (by omega) (by omega)
      have := base_lt o.num
      have := base_nonneg o.num
      unfold size
      omega
    · omega
  have e3 : R.add o = (if B % S ≠ 0 ∨ R.n - S < B then (1, R) else if R.hitO B S || R.hitG B S then (7, R) else (0, R.put1 o)) := by
    unfold RP.add
    rw [if_neg (by omega), if_neg (by omega), hB, hS]
  have hrem : B.tmod S = B % S := Int.tmod_eq_emod_of_nonneg (by omega)
  have hS0 : S ≠ 0 := by omega
  obtain ⟨rm, hrm⟩ : ∃ rm, B % S = rm := ⟨_, rfl⟩
  rw [hrm] at hrem e3
  have hwn : IntKind.i64.wrap (R.n - S) = R.n - S := wr (by omega) (by omega)
  have hread : (o.kind = 1 ∧ o.num / 256 ≤ 8) ∨ o.kind ≠ 1 := by omega
  rcases hread with ⟨hk1, hk8⟩ | hk1
  simp [f0, k1, k2, n0, hk1, hdiv, show ¬ 8 < o.num / 256 by omega]
  rotate_left
  simp [f0, k1, k2, n0, show (o.kind == 1) = false by simpa using hk1]
  all_goals
    refine callK_of (extent_calls o (fun hh => ⟨by omega, by omega⟩) W) ?_
    rintro en w1 ⟨rfl, hu1⟩
    refine ⟨_, rfl, ?_⟩
    have huw1 := hu.trans hu1 fun _ _ f => f.elim
    have hA1 := h.same huw1
    have hhead1 := hA1.head
    have f1 := (hu1.old _ (blk_lt f0) fun f => f).trans f0
    rw [hB, hS]
    simp
    rw [opK_int_rem _ _ _ _ _ hS0, hrem]
    by_cases d0 : ¬ rm = 0
    · rw [if_pos (.inl d0)] at e3
      rw [e3]
      have d0' : (rm != 0) = true := by simpa using d0
      simp [d0']
      exact h.stays huw1
    have d1 : rm = 0 := by omega
    subst d1
    by_cases d2 : R.n - S < B
    · rw [if_pos (.inr d2)] at e3
      rw [e3]
      simp [hhead1, hwn, d2]
      exact h.stays huw1
    rw [if_neg (by omega)] at e3
    simp [hhead1, hwn, d2]
    refine loopK1 (ScanL w1 R.O fun p => meets B S p.num 1) R.O.length (ScanL.start _ _ (Upd.refl _ _)) ?_
    rintro k u w2 ⟨i, hi, rfl, rfl, hu2, hno⟩
    have huw2 := huw1.trans hu2 fun _ _ f => f.elim
    have h2 := h.same huw2
    have hhead2 := h2.head
    by_cases hlt : i < R.O.length
    · obtain ⟨gg, cap, cs, hv, hgg, hr, hc, _⟩ := row_read ob_len h2.orow hlt
      have hw2 : IntKind.i64.wrap ((i : Int) + 1) = ((i + 1 : Nat) : Int) := by rw [wr (by omega) (by omega)]; rfl
      have hob := h.inv.obj _ (List.getElem_mem hlt)
      obtain ⟨p, hp⟩ : ∃ p, R.O[i] = p := ⟨_, rfl⟩
      rw [hp] at hr hob
      have hpk : p.kind ≠ 1 := by omega
      obtain ⟨q3, q4⟩ := first_other hpk
      subst hv
      simp [hhead2, hlt, hgg, hr]
      refine callK_of (extent_calls p (fun hh => absurd hh hpk) w2) ?_
      rintro en w3 ⟨rfl, hu3⟩
      refine ⟨_, rfl, ?_⟩
      rw [q3, q4]
      simp
      refine callK_of (meets_calls _ _ _ _ (by omega) (by omega) w3) ?_
      rintro en w4 ⟨rfl, rfl⟩
      refine ⟨_, rfl, ?_⟩
      have hu4 := hu2.trans hu3 fun _ _ f => f.elim
      cases hm : meets B S p.num 1 with
      | true =>
        have hl : R.hitO B S = true := List.any_eq_true.2 ⟨p, by rw [← hp]; exact List.getElem_mem hlt, hm⟩
        rw [hl, Bool.true_or, if_pos rfl] at e3
        rw [e3]
        simp
        exact h.stays (huw1.trans hu4 fun _ _ f => f.elim)
      | false =>
        simp [hw2, -Int.natCast_add]
        exact ScanL.next hlt hu4 hno (by rw [hp]; exact hm)
    · obtain ⟨a, c, hv⟩ := row_slice h2.orow
      obtain rfl : i = R.O.length := by omega
      have hOn : R.hitO B S = false := scan_end (L := R.O) (p := fun p => meets B S p.num 1) hno
      rw [hOn, Bool.false_or] at e3
      subst hv
      simp [hhead2]
      refine loopK1 (ScanL w1 R.G fun k => meets B S (base k.num) (size k.num)) R.G.length (ScanL.start _ _ hu2) ?_
      rintro k u w3 ⟨i, hi, rfl, rfl, hu3, hno3⟩
      have huw3 := huw1.trans hu3 fun _ _ f => f.elim
      have h3 := h.same huw3
      have hhead3 := h3.head
      by_cases hlt : i < R.G.length
      · obtain ⟨gg, cap, cs, hv, hgg, hr, hc, _⟩ := row_read rg_len h3.grow hlt
        have hc0 := hc 0 (by omega)
        rw [rg0] at hc0
        simp only [Nat.add_zero] at hc0
        have hw2 : IntKind.i64.wrap ((i : Int) + 1) = ((i + 1 : Nat) : Int) := by rw [wr (by omega) (by omega)]; rfl
        have hgi := (h.inv.reg _ (List.getElem_mem hlt)).1
        obtain ⟨q, hq⟩ : ∃ q, R.G[i] = q := ⟨_, rfl⟩
        rw [hq] at hc0 hgi
        have hs2 := size8 hgi
        have hb2 := base_lt q.num
        have hb20 := base_nonneg q.num
        subst hv
        simp [hhead3, hlt, hgg, hc0, obV_g]
        refine callK_of (extent_calls ⟨1, q.num⟩ (fun _ => ⟨hgi.1, hgi.2.1⟩) w3) ?_
        rintro en w4 ⟨rfl, hu4⟩
        refine ⟨_, rfl, ?_⟩
        obtain ⟨q3, q4⟩ := first_region (o := ⟨1, q.num⟩) rfl
        simp only [q3, q4]
        simp
        refine callK_of (meets_calls _ _ _ _ (by omega) (by omega) w4) ?_
        rintro en w5 ⟨rfl, rfl⟩
        refine ⟨_, rfl, ?_⟩
        have hu5 := hu3.trans hu4 fun _ _ f => f.elim
        cases hm : meets B S (base q.num) (size q.num) with
        | true =>
          have hl : R.hitG B S = true := List.any_eq_true.2 ⟨q, by rw [← hq]; exact List.getElem_mem hlt, hm⟩
          rw [hl, if_pos rfl] at e3
          rw [e3]
          simp
          exact h.stays (huw1.trans hu5 fun _ _ f => f.elim)
        | false =>
          simp [hw2, -Int.natCast_add]
          exact ScanL.next hlt hu5 hno3 (by rw [hq]; exact hm)
      · obtain ⟨a, c, hv⟩ := row_slice h3.grow
        obtain rfl : i = R.G.length := by omega
        have hGn : R.hitG B S = false := scan_end (L := R.G) (p := fun k => meets B S (base k.num) (size k.num)) hno3
        rw [hGn, if_neg (by simp)] at e3
        have hfresh : Fresh R o := fresh_add h.inv (by omega) (by omega) (by rw [hB, hS, hrm]; omega) (by rw [hB, hS, hOn, hGn]; simp)
        have hinv := h.inv.put1 hfresh
        have f3 := (hu3.old _ (blk_lt f1) fun f => f).trans f1
        rw [e3]
        subst hv
        by_cases hk' : o.kind = 1
        · have hput : R.put1 o = { R with G := R.G ++ [⟨o.num, 0⟩] } := by unfold RP.put1; rw [if_pos hk']
          rw [hput] at hinv ⊢
          simp [hhead3, f3, hk', sb204]
          rw [bs149]
          obtain ⟨W5, hW5, hu5, f5, s5⟩ := one w3.drew (.cells (rgCells ⟨o.num, 0⟩).toArray 204)
          rw [hW5]
          have huw5 := huw3.drew.trans hu5 fun _ _ f => f.elim
          have h5 := h.same huw5
          have hhead5 := h5.head
          simp [hhead5]
          refine app149 h5.grow (by omega) ⟨o.num, 0⟩ f5 ?_
          intro v' w6 r1 r2 r3
          obtain ⟨hr6, P⟩ := h5.appG r1 r2 r3 hinv
          simp [hr6, row_one r1]
          exact P.before huw5
        · have hput : R.put1 o = { R with O := R.O ++ [o] } := by unfold RP.put1; rw [if_neg hk']
          rw [hput] at hinv ⊢
          simp [hhead3, f3, hk']
          rw [show Value.agg (obCells o).toArray = obV o from rfl, bs146]
          obtain ⟨W5, hW5, hu5, f5, s5⟩ := one w3.drew (.cells (obCells o).toArray 84)
          rw [hW5]
          have huw5 := huw3.drew.trans hu5 fun _ _ f => f.elim
          have h5 := h.same huw5
          have hhead5 := h5.head
          simp [hhead5]
          refine app146 h5.orow (by omega) o f5 ?_
          intro v' w6 r1 r2 r3
          obtain ⟨hr6, P⟩ := h5.appO r1 r2 r3 hinv
          simp [hr6, row_one r1]
          exact P.before huw5

theorem drop_cells {α : Type} {f : α → List Value} {z : Nat} (hz : ∀ a, (f a).length = z) (L : List α) (rest : List Value) (k : Nat) (hk : k ≤ L.length) {j : Nat} {u : Value} (h : ((L.drop k).flatMap f)[j]? = some u) : (L.flatMap f ++ rest)[k * z + j]? = some u := by
  have e : L.flatMap f = (L.take k).flatMap f ++ (L.drop k).flatMap f := by rw [← List.flatMap_append, List.take_append_drop]
  have l1 : ((L.take k).flatMap f).length = k * z := by rw [flat_len hz]; simp [Nat.min_eq_left hk]
  have hj : j < ((L.drop k).flatMap f).length := by
    rcases Nat.lt_or_ge j ((L.drop k).flatMap f).length with hh | hh
    · exact hh
    · rw [List.getElem?_eq_none hh] at h; cases h
  rw [e, List.append_assoc, List.getElem?_append_right (by omega), l1, Nat.add_sub_cancel_left, List.getElem?_append_left hj]
  exact h
theorem take_cells {α : Type} {f : α → List Value} (L : List α) (rest : List Value) (k : Nat) {j : Nat} {u : Value} (h : ((L.take k).flatMap f)[j]? = some u) : (L.flatMap f ++ rest)[j]? = some u := by
  have e : L.flatMap f = (L.take k).flatMap f ++ (L.drop k).flatMap f := by rw [← List.flatMap_append, List.take_append_drop]
  have hj : j < ((L.take k).flatMap f).length := by
    rcases Nat.lt_or_ge j ((L.take k).flatMap f).length with hh | hh
    · exact hh
    · rw [List.getElem?_eq_none hh] at h; cases h
  rw [e, List.append_assoc, List.getElem?_append_left hj]
  exact h
theorem filter_at : ∀ (L : List Rg) (i : Nat) (g : Rg), (L.map (·.num)).Nodup → L[i]? = some g → L.filter (fun k => k.num != g.num) = L.take i ++ L.drop (i + 1)
  | [], i, g, _, h => by simp at h
  | k :: L, 0, g, hn, h => by
    simp at h
    subst h
    rw [List.map_cons, List.nodup_cons] at hn
    simp only [List.filter_cons, bne_self_eq_false, Bool.false_eq_true, if_false, List.take_zero, List.nil_append, List.drop_succ_cons, List.drop_zero, Nat.zero_add]
    rw [List.filter_eq_self]
    intro x hx
    simp only [bne_iff_ne, ne_eq]
    intro e
    exact hn.1 (by rw [← e]; exact List.mem_map_of_mem (f := Rg.num) hx)
  | k :: L, i + 1, g, hn, h => by
    rw [List.map_cons, List.nodup_cons] at hn
    have hL : L[i]? = some g := by simpa using h
    have ih := filter_at L i g hn.2 hL
    have hne : (k.num != g.num) = true := by
      simp only [bne_iff_ne, ne_eq]
      intro e
      exact hn.1 (by rw [e]; exact List.mem_map_of_mem (f := Rg.num) (List.mem_of_getElem? hL))
    simp [List.filter_cons, hne, ih]

/-- How a round of Remove finds things. -/
def RemI (w : World) (L : List Ob) (o : Ob) (k : Nat) (v u : Value) (w' : World) : Prop :=
  ∃ i : Nat, i ≤ L.length ∧ k = L.length - i ∧ u = .int .i64 i ∧ Upd (fun _ => False) w w' ∧ w'.ownsRow 0 84 2 v ((L.take i).filter fun p => p != o).length (((L.take i).filter fun p => p != o).flatMap obCells) ∧ ∀ b, v.ownBlock = some b → w.heap.size ≤ b
theorem take_filter_succ {L : List Ob} {i : Nat} (hi : i < L.length) (o : Ob) : (L.take (i + 1)).filter (fun p => p != o) = (L.take i).filter (fun p => p != o) ++ if L[i] = o then [] else [L[i]] := by
  rw [List.take_succ_eq_append_getElem hi, List.filter_append]
  congr 1
  by_cases e : L[i] = o
  · simp [e]
  · simp [e]

set_option maxRecDepth 100000 in
theorem RRemove_calls (h : RefAt G w r R ov gv) (o : Ob) :
    Calls Try.prog 81 #[.pointer (some ⟨r, 0, none⟩), obV o] w fun en w' => en = .returned (.int .i64 (R.remove o).1) ∧ PNext G w w' (RefH r (R.remove o).2) := by
  apply vk81
  unfold vc81
  refine box84 o ?_
  intro W hu f0 hs
  have hA := h.same hu
  have hO := O_len h.inv
  have hG := G_len h.inv
  unfold RP.remove
  by_cases hk : o.kind = 1
  · simp [f0, hk]
    refine callK_of (region_calls hA o.num) ?_
    rintro en w2 ⟨⟨i, hi, rfl⟩, hu2⟩
    refine ⟨_, rfl, ?_⟩
    have huw2 := hu.trans hu2 fun _ _ f => f.elim
    have f2 := (hu2.old _ (blk_lt f0) fun f => f).trans f0
    cases hi with
    | none hr =>
      simp [hr]
      exact h.stays huw2
    | some i g hg hr =>
    have hi0 : ¬ (i : Int) < 0 := by omega
    simp [hr, hi0, f2]
    refine callK_of (lies_calls (h.same huw2) hr) ?_
    rintro en w3 ⟨rfl, hu3⟩
    refine ⟨_, rfl, ?_⟩
    have huw3 := huw2.trans hu3 fun _ _ f => f.elim
    have h3 := h.same huw3
    have hhead3 := h3.head
    cases hl : R.lies o.num with
    | true => simp; exact h.stays huw3
    | false =>
    obtain ⟨hlt, hgi⟩ := List.getElem?_eq_some_iff.1 hg
    have hgn := (RP.reg_mem hr).2
    obtain ⟨gg, cap, cs, hv, hgg, _, _, rest, hcs⟩ := row_read rg_len h3.grow hlt
    have hcap : R.G.length ≤ cap := by
      rcases row_open h3.grow with ⟨e, h0, _⟩ | ⟨g2, cap2, rest2, e, _, hn, _⟩
      · omega
      · rw [hv] at e; simp at e; omega
    have hw2 : IntKind.i64.wrap ((i : Int) + 1) = ((i + 1 : Nat) : Int) := by rw [wr (by omega) (by omega)]; rfl
    subst hv
    subst hcs
    simp [hhead3]
    rw [opK_sl_hi_149 _ _ _ _ _ (by omega) (by omega)]
    simp only [Int.toNat_natCast]
    obtain ⟨inf, hi1, hi2, hi3, hi4⟩ := rg_info
    have hone : ∀ (L : List Rg), ∀ u ∈ L.flatMap rgCells, u.oneCell' = true := fun L u hu => by
      obtain ⟨q, _, hq⟩ := List.mem_flatMap.1 hu
      exact List.all_eq_true.1 (rg_one q) u hq
    refine opK_appendN Try.underlying149 hi1 hi2 hi3 hi4 rfl (by omega) (World.ownsRow_nil w3 0 _ 2) (m := i) (news := (R.G.take i).flatMap rgCells) (fun j u hj => by rw [add_off, cell_of_blk hgg]; simpa using take_cells R.G rest i hj)
      (by rw [flat_len rg_len]; simp; omega) (hone _) (by simp [maxLen]; omega) (by omega) ?_
    intro v1 w4 r1 r2 r3
    have hu4 : Upd (fun _ => False) w3 w4 := Upd.grown r2 fun c hc => by simp [Value.ownBlock] at hc
    have huw4 := huw3.trans hu4 fun _ _ f => f.elim
    have h4 := h3.same hu4
    have hhead4 := h4.head
    have hgg4 := (hu4.old _ (blk_lt hgg) fun f => f).trans hgg
    simp only [List.nil_append, Nat.zero_add] at r1
    simp [hhead4, hw2, -Int.natCast_add]
    rw [opK_sl_lo_149 _ _ _ _ _ (by omega) (by omega)]
    simp only [Int.toNat_natCast]
    have hnews : ∀ j u, ((R.G.drop (i + 1)).flatMap rgCells)[j]? = some u → w4.cell? ((⟨gg, if cap = i + 1 then 0 else (i + 1) * 2, none⟩ : Addr).add j) = some u := fun j u hj => by
      by_cases e : cap = i + 1
      · have : R.G.drop (i + 1) = [] := List.drop_eq_nil_of_le (by omega)
        rw [this] at hj; simp at hj
      · rw [if_neg e, add_off, cell_of_blk hgg4]
        simpa using drop_cells rg_len R.G rest (i + 1) (by omega) hj
    refine opK_appendN Try.underlying149 hi1 hi2 hi3 hi4 rfl (by omega) r1 (m := R.G.length - (i + 1)) (news := (R.G.drop (i + 1)).flatMap rgCells) hnews
      (by rw [flat_len rg_len]; simp) (hone _) (by simp [maxLen]; omega) (by omega) ?_
    intro v2 w5 s1 s2 s3
    have hv1 : ∀ b, v1.ownBlock = some b → w3.heap.size ≤ b := fun b hb => (r3 b hb).resolve_left (by simp [Value.ownBlock])
    have hu5 : Upd (fun _ => False) w3 w5 := hu4.trans (Upd.grown (F := fun c => v1.ownBlock = some c) s2 fun c hc => hc) fun c hc hv => by have := hv1 c hv; omega
    have e1 : R.dropG o.num = { R with G := R.G.take i ++ R.G.drop (i + 1) } := by
      unfold RP.dropG
      rw [← hgn, filter_at R.G i g h.inv.gnd hg]
    have hinv := h.inv.dropG o.num
    rw [e1] at hinv ⊢
    have hlen : (R.G.take i ++ R.G.drop (i + 1)).length = i + (R.G.length - (i + 1)) := by simp; omega
    obtain ⟨hr5, P⟩ := h3.appG (w5 := w5) (v' := v2) (G2 := R.G.take i ++ R.G.drop (i + 1)) (by rw [hlen, List.flatMap_append]; exact s1) (hu5.mono fun _ f => f.elim) (fun b hb => .inr (by
      rcases s3 b hb with e | e
      · exact hv1 b e
      · have := hu4.size; omega)) hinv
    simp [hr5, row_one s1]
    exact P.before huw3
  · rw [if_neg hk]
    simp [f0, hk]
    have hfl : ∀ i, ((R.O.take i).filter fun p => p != o).length ≤ R.O.length := fun i => by
      refine Nat.le_trans (List.length_filter_le _ _) ?_
      simp; omega
    refine loopK2 (RemI W R.O o) R.O.length ⟨0, by omega, rfl, rfl, Upd.refl _ _, by simpa using World.ownsRow_nil W 0 _ 2, fun b hb => by simp [Value.ownBlock] at hb⟩ ?_
    rintro k v u w2 ⟨i, hi, rfl, rfl, hu2, hrow, hlo⟩
    have huw2 := hu.trans hu2 fun _ _ f => f.elim
    have h2 := h.same huw2
    have hhead2 := h2.head
    have f2 := (hu2.old _ (blk_lt f0) fun f => f).trans f0
    by_cases hlt : i < R.O.length
    · obtain ⟨gg, cap, cs, hv, hgg, hr, hc, _⟩ := row_read ob_len h2.orow hlt
      have hwi : IntKind.i64.wrap ((i : Int) + 1) = ((i + 1 : Nat) : Int) := by rw [wr (by omega) (by omega)]; rfl
      have hsucc := take_filter_succ hlt o
      obtain ⟨p, hp⟩ : ∃ p, R.O[i] = p := ⟨_, rfl⟩
      rw [hp] at hr hsucc
      subst hv
      simp [hhead2, hlt]
      refine joinK1 (fun v' w' => Upd (fun _ => False) W w' ∧ w'.ownsRow 0 84 2 v' ((R.O.take (i + 1)).filter fun p => p != o).length (((R.O.take (i + 1)).filter fun p => p != o).flatMap obCells) ∧ ∀ b, v'.ownBlock = some b → W.heap.size ≤ b) ?_ ?_
      · by_cases he : p = o
        · rw [if_pos he, List.append_nil] at hsucc
          rw [hsucc]
          simp [hhead2, hlt, hgg, hr, f2, stK_neq84, he]
          exact ⟨hu2.drew, hrow, hlo⟩
        · rw [if_neg he] at hsucc
          rw [hsucc]
          simp [hhead2, hlt, hgg, hr, f2, stK_neq84, he]
          refine push146 (w := w2.drew) hrow (by have := hfl i; omega) p ?_
          intro v' w' r1 r2 r3
          refine ⟨hu2.drew.trans r2 fun c hc hv => by have := hlo c hv; omega, by simpa using r1, fun b hb => ?_⟩
          rcases r3 b hb with e | e
          · exact hlo b e
          · have := hu2.size; simp at e; omega
      · rintro v' w' ⟨hu', hr', hl'⟩
        simp [hwi, -Int.natCast_add]
        exact ⟨R.O.length - (i + 1), by omega, i + 1, by omega, rfl, rfl, hu', hr', hl'⟩
    · obtain ⟨a, c, hv⟩ := row_slice h2.orow
      obtain rfl : i = R.O.length := by omega
      rw [List.take_length] at hrow
      obtain ⟨a1, c1, hv1⟩ := row_slice hrow
      by_cases hm : o ∈ R.O
      · have hlen : ¬ (R.O.filter fun p => p != o).length = R.O.length := fun e => by
          rw [List.length_filter_eq_length_iff] at e
          have := e o hm
          simp at this
        rw [if_pos hm]
        have hinv := h.inv.dropO o
        obtain ⟨hr5, P⟩ := h.appO (w5 := w2) (v' := v) hrow (huw2.mono fun _ f => f.elim) (fun b hb => .inr (by have := hlo b hb; omega)) hinv
        subst hv
        subst hv1
        simp [hhead2]
        exact ⟨by omega, P⟩
      · have hlen : (R.O.filter fun p => p != o).length = R.O.length := by
          rw [List.length_filter_eq_length_iff]
          intro p hp
          simp
          rintro rfl
          exact hm hp
        rw [if_neg hm]
        subst hv
        subst hv1
        simp [hhead2, hlen]
        exact h.stays huw2
end
end Go.Proofs.Ytaniphdbebdhhaa.Pool
