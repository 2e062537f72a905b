/-
  Pages and untypeds: what changes of the program's pool leave. No condition beyond what each theorem names.
-/
import Derived.Test.YtaniphdbebdhhaaPm1
namespace Go.Proofs.Ytaniphdbebdhhaa.Pool
open Go.Vk Vk.Pool

@[simp] theorem ob0 (o : Ob) : (obCells o)[0]? = some (.int .i64 o.kind) := rfl
@[simp] theorem ob1 (o : Ob) : (obCells o)[1]? = some (.int .i64 o.num) := rfl
@[simp] theorem obr (o : Ob) : readN (obCells o).toArray 0 2 = some (obCells o) := rfl
@[simp] theorem ob_size (o : Ob) : (obCells o).toArray.size = 2 := rfl
theorem ob_one (o : Ob) : (obCells o).all Value.oneCell' = true := rfl
theorem ob_inj {a b : Ob} (h : obCells a = obCells b) : a = b := by
  cases a; cases b
  simpa [obCells] using h
theorem z84 : zero84.size = 2 := by kernel_rfl
theorem writeN_2 (cs : Array Value) (hs : cs.size = 2) (o : Ob) : writeN cs 0 (obCells o) = (obCells o).toArray := by
  obtain ⟨l⟩ := cs
  rw [writeN_list _ _ _ (by rw [ob_len]; simp at hs; omega)]
  have : l.drop 2 = [] := List.drop_eq_nil_of_le (by simpa using Nat.le_of_eq hs)
  simp [ob_len, this]

set_option maxRecDepth 100000 in
/-- A variable for an object. -/
theorem var84 (o : Ob) {ty : TypeId} {w : World} {K : Value → World → Prop}
    (h : ∀ W, Upd (fun _ => False) w W → W.heap[w.heap.size]? = some (.cells (obCells o).toArray 84 (0, 0)) → W.heap.size = w.heap.size + 1 → K (.pointer (some ⟨w.heap.size, 0, none⟩)) W) :
    opK Try.prog (.alloc 84) ty w fun t w => stn 2 t (.agg (obCells o).toArray) w fun _ w => K t w := by
  obtain ⟨W, hW, hu, f0, hs⟩ := one w (.cells zero84 84)
  rw [opK_alloc_84, hW]
  have ho := ob_one o
  simp [f0, z84, ob_len, ho, writeN_2 _ z84]
  refine h _ (hu.putB (.inl (Nat.le_refl _)) _) (putB_same (blk_lt f0) _) (by simpa using hs)
theorem box84 (o : Ob) {ty : TypeId} {w : World} {K : Value → World → Prop}
    (h : ∀ W, Upd (fun _ => False) w W → W.heap[w.heap.size]? = some (.cells (obCells o).toArray 84 (0, 0)) → W.heap.size = w.heap.size + 1 → K (.pointer (some ⟨w.heap.size, 0, none⟩)) W) :
    opK Try.prog (.box 84 (.const (obV o))) ty w K := by
  rw [opK_box]
  exact h _ ((Upd.refl _ w).alloc _) (alloc_new _ _) (by simp)
/-- A block of one's own turns: nothing that was has turned. -/
theorem _root_.Go.Vk.Upd.mine {F : Nat → Prop} {w w' w'' : World} (h : Upd F w w') {r : Nat} (k : Upd (fun b => b = r) w' w'') (hr : w.heap.size ≤ r) : Upd F w w'' :=
  h.trans k fun x hx e => by omega

theorem find_nodup' {l : List Ent3} {p : Ent3} (hn : (l.map (·.2.2)).Nodup) (hp : p ∈ l) : l.find? (fun q => q.2.2 == p.2.2) = some p := by
  induction l with
  | nil => simp at hp
  | cons q l ih =>
    rw [List.map_cons, List.nodup_cons] at hn
    rw [List.find?_cons]
    rcases List.mem_cons.1 hp with rfl | h
    · simp
    · have : q.2.2 ≠ p.2.2 := fun e => hn.1 (by rw [e]; exact List.mem_map_of_mem (f := fun q : Ent3 => q.2.2) h)
      have e : (q.2.2 == p.2.2) = false := by simpa using this
      rw [e]
      exact ih hn.2 h

section
variable {G : Nat → Prop} {w w' : World} {x : Nat} {R : RP} {m pg : Nat} {l : List Ent3} {c : Nat} {rb : Int → Nat}

theorem toNat_eq {a b : Int} (ha : 0 ≤ a) (hb : 0 ≤ b) (h : a.toNat = b.toNat) : a = b := by omega
/-- A page's object is another one. -/
theorem PoolAt.setPage (h : PoolAt G w x R m pg l c rb) {R' : RP} {i : Int} {o : Ob} (hi0 : 0 ≤ i) (hin : i < R.n) (hn : R'.n = R.n) (hat : ∀ j : Int, R'.at j = if j = i then o else R.at j) (hreg : ∀ t, R'.reg t = R.reg t) (hinv : Inv R')
    (hp : w'.heap[pg]? = some (.cells (writeN (pgCells R).toArray (i.toNat * 2) (obCells o)) 84 (0, 0))) (hf : ∀ b, G b → b ≠ pg → w'.heap[b]? = w.heap[b]?) (hs : w.heap.size ≤ w'.heap.size) : PoolAt G w' x R' m pg l c rb := by
  obtain ⟨a1, a2, a3⟩ := h.apart
  have hx := h.n
  refine ⟨?_, ?_, (hf m h.o_map a3.symm).trans h.map, h.nd, h.tidy, fun t => by rw [hreg]; exact h.key t, fun t g hg => ?_, fun t u ht hu => ?_, hinv, h.o_head, h.o_page, h.o_map, fun t ht => h.o_reg t (by rwa [hreg] at ht), fun b hb => Nat.lt_of_lt_of_le (h.lt b hb) hs⟩
  · rw [hf x h.o_head a1, h.head, hn]
  · rw [hp]
    have hw := flat_write ob_len ((List.range R.n.toNat).map fun (j : Nat) => R.at j) [] i.toNat (by simp; omega) o
    simp only [List.append_nil] at hw
    unfold pgCells
    rw [hw, hn]
    congr 2
    congr 1
    congr 1
    apply List.ext_getElem
    · simp
    · intro j h1 h2
      rw [List.getElem_set]
      simp only [List.getElem_map, List.getElem_range]
      rw [hat]
      by_cases e : i.toNat = j
      · rw [if_pos e, if_pos (by omega)]
      · rw [if_neg e, if_neg (by omega)]
  · rw [hreg] at hg
    have hne := (h.reg_x (t := t) (by rw [hg]; rfl)).2.1
    rw [hf _ (h.o_reg t (by rw [hg]; rfl)) hne]
    exact h.reg t g hg
  · rw [hreg] at ht hu; exact h.inj t u ht hu

/-- A new untyped. -/
theorem PoolAt.newReg (h : PoolAt G w x R m pg l c rb) {R' : RP} {t : Int} {nb : Nat} (hn : R'.n = R.n) (hat : ∀ j : Int, R'.at j = R.at j) (hreg : ∀ u, R'.reg u = if u = t then some ⟨t, 0⟩ else R.reg u) (hinv : Inv R')
    (hm : w'.heap[m]? = some (.map (ents (mput l c t (.pointer (some ⟨nb, 0, none⟩)))) (mclk l c t))) (hb : w'.heap[nb]? = some (regO t 0)) (hnb : w.heap.size ≤ nb) (hf : ∀ b, G b → b ≠ m → w'.heap[b]? = w.heap[b]?) (hs : w.heap.size ≤ w'.heap.size) :
    PoolAt (fun b => G b ∨ b = nb) w' x R' m pg (mput l c t (.pointer (some ⟨nb, 0, none⟩))) (mclk l c t) (fun u => if u = t then nb else rb u) := by
  obtain ⟨a1, a2, a3⟩ := h.apart
  have hpg : pgCells R' = pgCells R := by
    unfold pgCells; rw [hn]; simp only [hat]
  refine ⟨?_, ?_, hm, mput_nodup h.nd _ _ _, h.tidy.put _ _, fun u => ?_, fun u g hg => ?_, fun u v hu hv e => ?_, hinv, .inl h.o_head, .inl h.o_page, .inl h.o_map, fun u hu => ?_, fun b hbb => ?_⟩
  · rw [hf x h.o_head a2, h.head, hn]
  · rw [hf pg h.o_page a3, h.page, hpg]
  · rw [mget_mput, hreg]
    by_cases e : u = t
    · simp [e]
    · simp [e, h.key]
  · rw [hreg] at hg
    by_cases e : u = t
    · rw [if_pos e] at hg
      simp at hg
      subst e; subst hg
      simpa using hb
    · rw [if_neg e] at hg
      have := h.reg_x (t := u) (by rw [hg]; rfl)
      simp only [e, if_false]
      rw [hf _ (h.o_reg u (by rw [hg]; rfl)) this.2.2]
      exact h.reg u g hg
  · rw [hreg] at hu hv
    have old : ∀ v, v ≠ t → (if v = t then some (⟨t, 0⟩ : Rg) else R.reg v).isSome → (R.reg v).isSome := fun v e hv => by rwa [if_neg e] at hv
    by_cases eu : u = t
    · by_cases ev : v = t
      · rw [eu, ev]
      · simp only [eu, ev, if_true, if_false] at e
        have := h.lt _ (h.o_reg v (old v ev hv))
        omega
    · by_cases ev : v = t
      · simp only [eu, ev, if_true, if_false] at e
        have := h.lt _ (h.o_reg u (old u eu hu))
        omega
      · simp only [eu, ev, if_false] at e
        exact h.inj u v (old u eu hu) (old v ev hv) e
  · rw [hreg] at hu
    by_cases e : u = t
    · simp [e]
    · rw [if_neg e] at hu
      simp only [e, if_false]
      exact .inl (h.o_reg u hu)
  · rcases hbb with hbb | hbb
    · have := h.lt b hbb; omega
    · subst hbb; exact blk_lt hb

/-- An untyped goes. -/
theorem PoolAt.goReg (h : PoolAt G w x R m pg l c rb) {R' : RP} {t : Int} (hn : R'.n = R.n) (hat : ∀ j : Int, R'.at j = R.at j) (hreg : ∀ u, R'.reg u = if u = t then none else R.reg u) (hinv : Inv R')
    (hm : w'.heap[m]? = some (.map (ents (mdel t l)) c)) (hf : ∀ b, G b → b ≠ m → w'.heap[b]? = w.heap[b]?) (hs : w.heap.size ≤ w'.heap.size) : PoolAt G w' x R' m pg (mdel t l) c rb := by
  obtain ⟨a1, a2, a3⟩ := h.apart
  have hpg : pgCells R' = pgCells R := by
    unfold pgCells; rw [hn]; simp only [hat]
  have old : ∀ {u}, (R'.reg u).isSome → u ≠ t ∧ (R.reg u).isSome := fun {u} hu => by
    rw [hreg] at hu
    by_cases e : u = t
    · rw [if_pos e] at hu; cases hu
    · rw [if_neg e] at hu; exact ⟨e, hu⟩
  refine ⟨?_, ?_, hm, mdel_nodup h.nd _, h.tidy.del _, fun u => ?_, fun u g hg => ?_, fun u v hu hv => h.inj u v (old hu).2 (old hv).2, hinv, h.o_head, h.o_page, h.o_map, fun u hu => h.o_reg u (old hu).2, fun b hb => Nat.lt_of_lt_of_le (h.lt b hb) hs⟩
  · rw [hf x h.o_head a2, h.head, hn]
  · rw [hf pg h.o_page a3, h.page, hpg]
  · rw [mget_mdel h.nd, hreg]
    by_cases e : u = t
    · simp [e]
    · simp [e, h.key]
  · obtain ⟨e, h1⟩ := old (u := u) (by rw [hg]; rfl)
    rw [hreg, if_neg e] at hg
    rw [hf _ (h.o_reg u h1) (h.reg_x h1).2.2]
    exact h.reg u g hg

/-- A mark. -/
theorem PoolAt.newMark (h : PoolAt G w x R m pg l c rb) {R' : RP} {t v : Int} (ht : (R.reg t).isSome) (hn : R'.n = R.n) (hat : ∀ j : Int, R'.at j = R.at j) (hreg : ∀ u, R'.reg u = if u = t then some ⟨t, v⟩ else R.reg u) (hinv : Inv R')
    (hm : w'.heap[rb t]? = some (regO t v)) (hf : ∀ b, G b → b ≠ rb t → w'.heap[b]? = w.heap[b]?) (hs : w.heap.size ≤ w'.heap.size) : PoolAt G w' x R' m pg l c rb := by
  obtain ⟨a1, a2, a3⟩ := h.reg_x ht
  have hpg : pgCells R' = pgCells R := by
    unfold pgCells; rw [hn]; simp only [hat]
  have old : ∀ {u}, (R'.reg u).isSome → (R.reg u).isSome := fun {u} hu => by
    rw [hreg] at hu
    by_cases e : u = t
    · rw [e]; exact ht
    · rwa [if_neg e] at hu
  refine ⟨?_, ?_, ?_, h.nd, h.tidy, fun u => ?_, fun u g hg => ?_, fun u v hu hv => h.inj u v (old hu) (old hv), hinv, h.o_head, h.o_page, h.o_map, fun u hu => h.o_reg u (old hu), fun b hb => Nat.lt_of_lt_of_le (h.lt b hb) hs⟩
  · rw [hf x h.o_head a1.symm, h.head, hn]
  · rw [hf pg h.o_page a2.symm, h.page, hpg]
  · rw [hf m h.o_map a3.symm, h.map]
  · rw [h.key, hreg]
    by_cases e : u = t
    · obtain ⟨g, hg⟩ := Option.isSome_iff_exists.1 ht
      simp [e, hg]
    · simp [e]
  · rw [hreg] at hg
    by_cases e : u = t
    · rw [if_pos e] at hg
      simp at hg
      subst e; subst hg
      exact hm
    · rw [if_neg e] at hg
      have h1 : (R.reg u).isSome := by rw [hg]; rfl
      rw [hf _ (h.o_reg u h1) (fun e2 => e (h.inj u t h1 ht e2))]
      exact h.reg u g hg
end

/-! ### What the plain law's changes come to -/
theorem put1_reg {R : RP} {o : Ob} (hk : o.kind = 1) (hf : ∀ g ∈ R.G, g.num ≠ o.num) (u : Int) : (R.put1 o).reg u = if u = o.num then some ⟨o.num, 0⟩ else R.reg u := by
  unfold RP.put1 RP.reg
  rw [if_pos hk]
  simp only [List.find?_append]
  by_cases e : u = o.num
  · subst e
    rw [List.find?_eq_none.2 (by simpa using hf)]
    simp
  · rw [if_neg e]
    have : (o.num == u) = false := by simpa using fun h : o.num = u => e h.symm
    simp [this]
theorem put1_at {R : RP} {o : Ob} (hk : o.kind ≠ 1) (hf : ∀ p ∈ R.O, p.num ≠ o.num) (i : Int) : (R.put1 o).at i = if i = o.num then o else R.at i := by
  unfold RP.put1 RP.at
  rw [if_neg hk]
  simp only [List.find?_append]
  by_cases e : i = o.num
  · subst e
    rw [List.find?_eq_none.2 (by simpa using hf)]
    simp
  · rw [if_neg e]
    have : (o.num == i) = false := by simpa using fun h : o.num = i => e h.symm
    simp [this]
theorem put1_n (R : RP) (o : Ob) : (R.put1 o).n = R.n := by unfold RP.put1; split <;> rfl
theorem put1_at' {R : RP} {o : Ob} (hk : o.kind = 1) (i : Int) : (R.put1 o).at i = R.at i := by unfold RP.put1 RP.at; rw [if_pos hk]
theorem put1_reg' {R : RP} {o : Ob} (hk : o.kind ≠ 1) (i : Int) : (R.put1 o).reg i = R.reg i := by unfold RP.put1 RP.reg; rw [if_neg hk]
theorem find_filter_ne {α : Type} (p q : α → Bool) : ∀ (l : List α), (∀ x ∈ l, p x = true → q x = true) → (l.filter q).find? p = l.find? p
  | [], _ => rfl
  | x :: l, h => by
    have ih := find_filter_ne p q l fun y hy => h y (List.mem_cons_of_mem _ hy)
    rw [List.filter_cons]
    by_cases hq : q x = true
    · rw [if_pos hq, List.find?_cons, List.find?_cons, ih]
    · have hp : p x = false := by
        cases hp : p x with
        | false => rfl
        | true => exact absurd (h x List.mem_cons_self hp) hq
      rw [if_neg hq, List.find?_cons, hp, ih]
theorem dropG_reg (R : RP) (t u : Int) : (R.dropG t).reg u = if u = t then none else R.reg u := by
  unfold RP.dropG RP.reg
  by_cases e : u = t
  · subst e
    rw [if_pos rfl, List.find?_eq_none]
    intro g hg
    have := (List.mem_filter.1 hg).2
    simpa using this
  · rw [if_neg e]
    exact find_filter_ne _ _ _ fun g _ hg => by simp at hg ⊢; omega
theorem dropO_at {R : RP} (h : Inv R) {o : Ob} (ho : o ∈ R.O) (i : Int) : (R.dropO o).at i = if i = o.num then ⟨0, 0⟩ else R.at i := by
  unfold RP.dropO RP.at
  by_cases e : i = o.num
  · subst e
    rw [if_pos rfl]
    have : (R.O.filter fun p => p != o).find? (fun p => p.num == o.num) = none := by
      rw [List.find?_eq_none]
      intro p hp
      obtain ⟨h1, h2⟩ := List.mem_filter.1 hp
      simp only [beq_iff_eq]
      intro e
      have a := RP.at_of h h1
      rw [e, RP.at_of h ho] at a
      simp [a] at h2
    rw [this]; rfl
  · rw [if_neg e]
    congr 1
    exact find_filter_ne _ _ _ fun p _ hp => by
      simp only [beq_iff_eq] at hp
      simp only [bne_iff_ne, ne_eq]
      rintro rfl
      exact e hp.symm
theorem setMark_reg (R : RP) (t v u : Int) (ht : (R.reg t).isSome) : (R.setMark t v).reg u = if u = t then some ⟨t, v⟩ else R.reg u := by
  unfold RP.setMark RP.reg at *
  generalize R.G = L at ht ⊢
  induction L with
  | nil => simp at ht
  | cons g L ih =>
    rw [List.map_cons, List.find?_cons, List.find?_cons]
    rw [List.find?_cons] at ht
    by_cases eg : g.num = t
    · rw [if_pos eg]
      by_cases eu : u = t
      · simp [eu]
      · have e1 : (t == u) = false := by simpa using fun h : t = u => eu h.symm
        have e2 : (g.num == u) = false := by rw [eg]; exact e1
        simp only [e1, e2, eu, if_false]
        clear ih ht
        induction L with
        | nil => rfl
        | cons k L ih =>
          rw [List.map_cons, List.find?_cons, List.find?_cons, ih]
          by_cases ek : k.num = t
          · have e3 : (k.num == u) = false := by rw [ek]; exact e1
            simp [ek, e1]
          · simp [ek]
    · have e1 : (g.num == t) = false := by simpa using eg
      rw [e1] at ht
      have ih' := ih ht
      rw [if_neg eg, ih']
      by_cases eu : u = t
      · subst eu
        simp [e1]
      · by_cases e2 : g.num = u
        · simp [e2, eu]
        · have e3 : (g.num == u) = false := by simpa using e2
          simp [e3]
theorem setMark_at (R : RP) (t v i : Int) : (R.setMark t v).at i = R.at i := rfl
end Go.Proofs.Ytaniphdbebdhhaa.Pool
