/-
  Pages and untypeds: contract of the program's Objects. No condition beyond what each theorem names.
-/
import Derived.Test.YtaniphdbebdhhaaPm7
namespace Go.Proofs.Ytaniphdbebdhhaa.Pool
open Go.Vk Vk.Pool

set_option maxRecDepth 100000 in
/-- append(l, an object). -/
theorem push146 {w : World} {v : Value} {xs : List Ob} (hv : w.ownsRow 0 84 2 v xs.length (xs.flatMap obCells)) (hlen : xs.length < 1000000) (o : Ob) {K : Value → World → Prop}
    (h : ∀ v' w', w'.ownsRow 0 84 2 v' (xs ++ [o]).length ((xs ++ [o]).flatMap obCells) → Upd (fun c => v.ownBlock = some c) w w' → (∀ b, v'.ownBlock = some b → v.ownBlock = some b ∨ w.heap.size ≤ b) → K v' w') :
    opK Try.prog (.buildSlice 146 1 #[(0, .const (.agg (obCells o).toArray))]) 146 w fun t w => opK Try.prog (.call ⟨.builtin .append, #[.const v, .const t], #[146, 146]⟩) 146 w K := by
  obtain ⟨inf, hi1, hi2, hi3, hi4⟩ := ob_info
  rw [show Value.agg (obCells o).toArray = obV o from rfl, bs146]
  have hrow6 : (w.alloc (.cells (obCells o).toArray 84)).ownsRow 0 84 2 v xs.length (xs.flatMap obCells) := row_keep hv fun g hg => alloc_old (row_lt hv hg) _
  refine opK_append1 Try.underlying146 hi1 hi2 hi3 hi4 rfl (by omega) hrow6 (alloc_new _ _) (m := 1) rfl (fun u hu => List.all_eq_true.1 (ob_one o) u (by simpa using hu)) (by simp [maxLen]; omega) (by omega) ?_
  intro v' w5 r1 r2 r3
  refine h v' w5 (by simpa using r1) ?_ (fun b hb => (r3 b hb).imp id fun e => by simp at e; omega)
  exact ((Upd.refl (fun c => v.ownBlock = some c) w).alloc _).trans (Upd.grown (F := fun c => v.ownBlock = some c) r2 fun c hc => hc) fun _ _ hc => hc

section
variable {G : Nat → Prop} {w w' : World} {x : Nat} {R : RP} {m pg : Nat} {l : List Ent3} {c : Nat} {rb : Int → Nat}

theorem nodup_of_map {α β : Type} {f : α → β} {l : List α} (h : (l.map f).Nodup) : l.Nodup := by
  have h' : List.Pairwise _ _ := h
  rw [List.pairwise_map] at h'
  exact h'.imp fun hne e => hne (by rw [e])
/-- The objects of the first pages. -/
def pgObs (R : RP) (i : Nat) : List Ob := ((List.range i).map fun (j : Nat) => R.at j).filter fun o => o.kind != 0
theorem pgObs_succ (R : RP) (i : Nat) : pgObs R (i + 1) = pgObs R i ++ if (R.at i).kind = 0 then [] else [R.at i] := by
  unfold pgObs
  rw [List.range_succ, List.map_append, List.filter_append]
  congr 1
  by_cases h : (R.at i).kind = 0
  · simp [h]
  · simp [h]
theorem pgObs_perm {R : RP} (h : Inv R) : (pgObs R R.n.toNat).Perm R.O := by
  have hn : ∀ i j : Nat, i < j → (R.at i).kind ≠ 0 → R.at (i : Int) ≠ R.at (j : Int) := fun i j hij hk e => by
    rcases R.at_cases i with ⟨h1, _⟩ | ⟨_, h2⟩
    · rw [h1] at hk; simp at hk
    · rcases R.at_cases j with ⟨h3, _⟩ | ⟨_, h4⟩
      · rw [e, h3] at hk; simp at hk
      · rw [e, h4] at h2; omega
  rw [List.perm_ext_iff_of_nodup]
  · intro o
    unfold pgObs
    simp only [List.mem_filter, List.mem_map, List.mem_range, bne_iff_ne, ne_eq]
    constructor
    · rintro ⟨⟨i, hi, rfl⟩, hk⟩
      rcases R.at_cases i with ⟨h1, _⟩ | ⟨h1, _⟩
      · rw [h1] at hk; simp at hk
      · exact h1
    · intro ho
      have := h.obj o ho
      refine ⟨⟨o.num.toNat, by omega, ?_⟩, by omega⟩
      rw [show ((o.num.toNat : Nat) : Int) = o.num by omega]
      exact RP.at_of h ho
  · unfold pgObs
    show List.Pairwise _ _
    rw [List.pairwise_filter, List.pairwise_map]
    refine List.Pairwise.imp ?_ List.pairwise_lt_range
    intro i j hij h1 _
    exact hn i j hij (by simpa using h1)
  · have := h.ond
    exact nodup_of_map this
theorem keys_perm (h : PoolAt G w x R m pg l c rb) : (mkeys l).Perm (R.G.map (·.num)) := by
  rw [List.perm_ext_iff_of_nodup h.nd h.inv.gnd]
  intro t
  constructor
  · intro ht
    unfold mkeys at ht
    obtain ⟨p, hp, rfl⟩ := List.mem_map.1 ht
    obtain ⟨g, hg, _⟩ := h.entry hp
    obtain ⟨h1, h2⟩ := RP.reg_mem hg
    exact List.mem_map.2 ⟨g, h1, h2⟩
  · intro ht
    obtain ⟨g, hg, rfl⟩ := List.mem_map.1 ht
    obtain ⟨p, hp, e⟩ := h.entry_of hg
    exact List.mem_map.2 ⟨p, hp, e⟩
theorem all_small {R : RP} (h : Inv R) : ∀ o ∈ R.all, 0 ≤ o.kind ∧ o.kind < 16 ∧ 0 ≤ o.num ∧ o.num < 65536 := by
  intro o ho
  unfold RP.all at ho
  rcases List.mem_append.1 ho with ho | ho
  · have := h.obj o ho
    have := h.n2
    omega
  · obtain ⟨g, hg, rfl⟩ := List.mem_map.1 ho
    have := (h.reg g hg).1
    have h2 := this.le
    have h1 := this.1
    simp only
    omega
theorem len_bounded {l : List Int} {n : Nat} (hn : l.Nodup) (hb : ∀ x ∈ l, 0 ≤ x ∧ x < n) : l.length ≤ n := by
  have h1 : (l.map Int.toNat).Nodup := by
    show List.Pairwise _ _
    rw [List.pairwise_map]
    refine List.Pairwise.imp_of_mem ?_ hn
    intro a b ha hb' hne e
    have := hb a ha
    have := hb b hb'
    omega
  have := (List.nodup_range (n := n))
  have h2 : (l.map Int.toNat).length ≤ (List.range n).length := h1.length_le_of_subset fun a ha => by
    obtain ⟨x, hx, rfl⟩ := List.mem_map.1 ha
    have := hb x hx
    simp; omega
  simpa using h2
theorem O_len {R : RP} (h : Inv R) : R.O.length ≤ 256 := by
  have := len_bounded (n := 256) h.ond fun x hx => by
    obtain ⟨o, ho, rfl⟩ := List.mem_map.1 hx
    have := h.obj o ho
    have := h.n2
    omega
  simpa using this
theorem G_len {R : RP} (h : Inv R) : R.G.length ≤ 2304 := by
  have := len_bounded (n := 2304) h.gnd fun x hx => by
    obtain ⟨g, hg, rfl⟩ := List.mem_map.1 hx
    have := (h.reg g hg).1
    have h2 := this.le
    have h1 := this.1
    omega
  simpa using this

/-- How a round over the pages finds things. -/
def ObjI (w : World) (R : RP) (n : Nat) (k : Nat) (v u : Value) (w' : World) : Prop :=
  ∃ i : Nat, i ≤ n ∧ k = n - i ∧ u = .int .i64 i ∧ Upd (fun _ => False) w w' ∧ w'.ownsRow 0 84 2 v (pgObs R i).length ((pgObs R i).flatMap obCells) ∧ ∀ b, v.ownBlock = some b → w.heap.size ≤ b
/-- How a round over the untypeds finds things. -/
def ObjK (w : World) (R : RP) (r m : Nat) (l : List Ent3) (n : Nat) (k : Nat) (v : Value) (w' : World) : Prop :=
  ∃ (seen : Array Nat) (vis : List Ent3), Ranging w' r m l seen ∧ k = todo l seen ∧ vis.Nodup ∧ (∀ p, p ∈ vis ↔ p ∈ l ∧ p.2.2 ∈ seen) ∧ Upd (fun _ => False) w w' ∧
    w'.ownsRow 0 84 2 v (pgObs R n ++ vis.map fun p => (⟨1, p.1⟩ : Ob)).length ((pgObs R n ++ vis.map fun p => (⟨1, p.1⟩ : Ob)).flatMap obCells) ∧ (∀ b, v.ownBlock = some b → w.heap.size ≤ b ∧ b ≠ r)

set_option maxRecDepth 100000 in
theorem Objects_calls (h : PoolAt G w x R m pg l c rb) :
    Calls Try.prog 89 #[.pointer (some ⟨x, 0, none⟩)] w fun en w' => ∃ (v : Value) (ys : List Ob), en = .returned v ∧ ys.Perm R.all ∧ ys.Pairwise (fun a b => leOb a b) ∧
      PNext G w w' (Sep (PoolH x R) (Row 84 2 v ys.length (ys.flatMap obCells))) := by
  apply vk89
  unfold vc89
  obtain ⟨hn, hn1, hn2⟩ := h.n
  obtain ⟨N, hN⟩ : ∃ N, R.n.toNat = N := ⟨_, rfl⟩
  have hhead := h.head
  rw [hN] at hn hn1 hn2 hhead
  simp [hhead]
  have hOl := O_len h.inv
  have hGl := G_len h.inv
  have hpl : ∀ i, (pgObs R i).length ≤ i := fun i => by
    unfold pgObs
    exact Nat.le_trans (List.length_filter_le _ _) (by simp)
  refine loopK2 (ObjI w R N) N ⟨0, by omega, rfl, rfl, Upd.refl _ _, by simpa [pgObs] using World.ownsRow_nil w 0 _ 2, fun b hb => by simp [Value.ownBlock] at hb⟩ ?_
  rintro k v u w1 ⟨i, hi, rfl, rfl, hu1, hrow, hlo⟩
  have hA1 := h.same hu1
  by_cases hlt : i < N
  · have hrd := hA1.cell (i := i) (by omega)
    obtain ⟨o, ho⟩ : ∃ o, R.at (i : Int) = o := ⟨_, rfl⟩
    rw [ho] at hrd
    have hwi : IntKind.i64.wrap ((i : Int) + 1) = ((i + 1 : Nat) : Int) := by rw [wr (by omega) (by omega)]; rfl
    have hsucc := pgObs_succ R i
    rw [ho] at hsucc
    simp [hlt, hA1.page, hrd]
    refine joinK1 (fun v' w' => Upd (fun _ => False) w w' ∧ w'.ownsRow 0 84 2 v' (pgObs R (i + 1)).length ((pgObs R (i + 1)).flatMap obCells) ∧ ∀ b, v'.ownBlock = some b → w.heap.size ≤ b) ?_ ?_
    · refine var84 o ?_
      intro W hu2 f0 hs2
      have hrow2 : W.ownsRow 0 84 2 v (pgObs R i).length ((pgObs R i).flatMap obCells) := row_keep hrow fun g hg => hu2.old g (row_lt hrow hg) fun f => f
      have huW := hu1.trans hu2 fun _ _ f => f.elim
      by_cases hk : o.kind = 0
      · rw [if_pos hk, List.append_nil] at hsucc
        rw [hsucc]
        simp [f0, hk]
        exact ⟨huW, hrow2, hlo⟩
      · rw [if_neg hk] at hsucc
        rw [hsucc]
        simp [f0, hk]
        refine push146 hrow2 (by have := hpl i; omega) o ?_
        intro v' w' r1 r2 r3
        refine ⟨huW.trans r2 fun c hc hv => by have := hlo c hv; omega, by simpa using r1, fun b hb => ?_⟩
        rcases r3 b hb with e | e
        · exact hlo b e
        · have := huW.size; omega
    · rintro v' w' ⟨hu', hr', hl'⟩
      simp [hwi, -Int.natCast_add]
      exact ⟨N - (i + 1), by omega, i + 1, by omega, rfl, rfl, hu', hr', hl'⟩
  · obtain rfl : i = N := by omega
    simp [hA1.head]
    refine opK_range under145 hA1.map h.tidy _ ?_
    intro w2 hrg hu2 hs2
    have hge := hu1.size
    have hrow2 : w2.ownsRow 0 84 2 v (pgObs R i).length ((pgObs R i).flatMap obCells) := row_keep hrow fun g hg => hu2.old g (row_lt hrow hg) fun f => f
    refine loopK1 (ObjK w R w1.heap.size m l i) (todo l #[]) ⟨#[], [], hrg, rfl, List.nodup_nil, by simp, hu1.trans hu2 (fun _ _ f => f.elim), by simpa using hrow2, fun b hb => ⟨hlo b hb, by have := row_lt hrow hb; omega⟩⟩ ?_
    rintro k v w3 ⟨seen, vis, hr3, rfl, hvn, hvm, hu3, hrow3, hlo3⟩
    have hvl : vis.length ≤ l.length := hvn.length_le_of_subset fun p hp => ((hvm p).1 hp).1
    have hkp := keys_perm h
    have hll : l.length ≤ 2304 := by
      have := hkp.length_eq
      unfold mkeys at this
      simp at this
      omega
    refine opK_next hr3 _ ?_ ?_
    · intro hall
      have hnl : l.Nodup := nodup_of_map h.nd
      have hpv : vis.Perm l := by
        rw [List.perm_ext_iff_of_nodup hvn hnl]
        intro p
        rw [hvm]
        exact ⟨fun hh => hh.1, fun hh => ⟨hh, hall p hh⟩⟩
      have hperm : (pgObs R i ++ vis.map fun p => (⟨1, p.1⟩ : Ob)).Perm R.all := by
        unfold RP.all
        have e1 := pgObs_perm h.inv
        rw [hN] at e1
        refine e1.append ?_
        have e2 : (vis.map fun p => (⟨1, p.1⟩ : Ob)) = (mkeys vis).map fun t => ⟨1, t⟩ := by unfold mkeys; rw [List.map_map]; rfl
        have e3 : (R.G.map fun g => (⟨1, g.num⟩ : Ob)) = (R.G.map (·.num)).map fun t => ⟨1, t⟩ := by rw [List.map_map]; rfl
        rw [e2, e3]
        exact (((hpv.map (fun p : Ent3 => p.1)).trans hkp).map _)
      simp
      refine callK_of (sort_calls hrow3 (fun o ho => all_small h.inv o (hperm.subset ho)) (by have := hpl i; simp; omega)) ?_
      rintro en w4 ⟨rfl, ys, hy1, hy2, hy3, hy4⟩
      refine ⟨_, rfl, ?_⟩
      have hu4 : Upd (fun _ => False) w w4 := hu3.trans hy4 fun c hc hv => by have := (hlo3 c hv).1; omega
      refine ⟨ys, hy1.trans hperm, hy2, fun b => G b ∨ v.ownBlock = some b, ⟨G, fun b => v.ownBlock = some b, ⟨_, _, _, _, _, h.same hu4⟩, ⟨hy3, fun _ => Iff.rfl⟩, fun b hb hv => ?_, fun _ => Iff.rfl⟩, fun b hb => hb.imp id fun hv => (hlo3 b hv).1, hu4.mono fun _ f => f.elim⟩
      have := h.lt b hb
      have := (hlo3 b hv).1
      omega
    · intro p hp hps w4 hr4 hu4 hs4
      have hu4' := hu3.mine hu4 hge
      simp [opK_entry hr4 hp, b84]
      have hrow4 : w4.ownsRow 0 84 2 v (pgObs R i ++ vis.map fun p => (⟨1, p.1⟩ : Ob)).length ((pgObs R i ++ vis.map fun p => (⟨1, p.1⟩ : Ob)).flatMap obCells) := row_keep hrow3 fun g hg => hu4.old g (row_lt hrow3 hg) (hlo3 g hg).2
      refine push146 hrow4 (by have := hpl i; simp; omega) ⟨1, p.1⟩ ?_
      intro v' w5 r1 r2 r3
      have hrlt := hr4.lt
      have kv : ∀ b, v.ownBlock = some b → b ≠ m := fun b hb e => by
        have h1 := (hlo3 b hb).1
        have h2 := h.lt m h.o_map
        omega
      have hseen : ∀ q, q ∈ l → (q.2.2 = p.2.2 ↔ q = p) := fun q hq => ⟨fun e => by
        have e1 := find_nodup' h.tidy.2 hp
        have e2 := find_nodup' h.tidy.2 hq
        rw [e, e1] at e2
        exact (Option.some.inj e2).symm, fun e => by rw [e]⟩
      refine ⟨_, todo_lt hp hps, seen.push p.2.2, vis ++ [p], hr4.keep (r2.old _ hrlt.1 fun hv => (hlo3 _ hv).2 rfl) (r2.old _ hrlt.2 fun hv => kv _ hv rfl), rfl, ?_, fun q => ?_, hu4'.trans r2 (fun c hc hv => by have := (hlo3 c hv).1; omega), ?_, fun b hb => ?_⟩
      · rw [List.nodup_append]
        refine ⟨hvn, by simp, fun a ha b hb => ?_⟩
        simp at hb
        subst hb
        rintro rfl
        exact hps ((hvm a).1 ha).2
      · rw [List.mem_append, Array.mem_push, hvm, List.mem_singleton]
        constructor
        · rintro (⟨h1, h2⟩ | rfl)
          · exact ⟨h1, .inl h2⟩
          · exact ⟨hp, .inr rfl⟩
        · rintro ⟨h1, h2 | h2⟩
          · exact .inl ⟨h1, h2⟩
          · exact .inr ((hseen q h1).1 h2)
      · simpa using r1
      · rcases r3 b hb with e | e
        · exact hlo3 b e
        · have := hu4'.size
          have h2 := hrlt.1
          omega
end
end Go.Proofs.Ytaniphdbebdhhaa.Pool
