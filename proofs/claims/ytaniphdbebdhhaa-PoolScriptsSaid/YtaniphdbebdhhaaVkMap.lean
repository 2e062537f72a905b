/-
  Maps whose keys are ints: what look-ups, stores and deletions come to. No condition.
-/
import Derived.Test.YtaniphdbebdhhaaVkOps
namespace Go.Vk

abbrev Ent3 := Int × Value × Nat
def ent (p : Ent3) : MapEntry := { key := .int .i64 p.1, val := p.2.1, born := p.2.2 }
/-- A map's entries: key, value, when it came. -/
def ents (l : List Ent3) : Array MapEntry := (l.map ent).toArray
def mget (l : List Ent3) (t : Int) : Option Value := (l.find? (fun p => p.1 == t)).map (·.2.1)
def mset (t : Int) (v : Value) : List Ent3 → List Ent3
  | [] => []
  | p :: l => if p.1 = t then (t, v, p.2.2) :: l else p :: mset t v l
def mput (l : List Ent3) (c : Nat) (t : Int) (v : Value) : List Ent3 := if (mget l t).isSome then mset t v l else l ++ [(t, v, c)]
def mclk (l : List Ent3) (c : Nat) (t : Int) : Nat := if (mget l t).isSome then c else c + 1
def mdel (t : Int) : List Ent3 → List Ent3
  | [] => []
  | p :: l => if p.1 = t then l else p :: mdel t l
def mkeys (l : List Ent3) : List Int := l.map (·.1)

def findI (t : Int) : List Ent3 → Nat → Option (Nat × Value)
  | [], _ => none
  | p :: l, i => if p.1 = t then some (i, p.2.1) else findI t l (i + 1)

theorem findNow_ents (k0 : IntKind) (t : Int) : ∀ (l : List Ent3) (i : Nat), Instr.findNow (.int k0) (.int .i64 t) (l.map ent) i = some (findI t l i)
  | [], i => rfl
  | p :: l, i => by
    simp only [List.map_cons, Instr.findNow, ent, Instr.sameNow, if_true, findI]
    by_cases h : p.1 = t
    · have : (t == p.1) = true := by simp [h]
      rw [this, if_pos h]
    · have : (t == p.1) = false := by simp; exact fun e => h e.symm
      rw [this, if_neg h]
      exact findNow_ents k0 t l (i + 1)

theorem findI_get (t : Int) : ∀ (l : List Ent3) (i : Nat), (findI t l i).map (·.2) = mget l t
  | [], i => rfl
  | p :: l, i => by
    unfold findI mget
    rw [List.find?_cons]
    by_cases h : p.1 = t
    · have : (p.1 == t) = true := by simp [h]
      rw [this, if_pos h]; rfl
    · have : (p.1 == t) = false := by simp [h]
      rw [this, if_neg h]
      exact findI_get t l (i + 1)

theorem findI_shift (t : Int) : ∀ (l : List Ent3) (i : Nat), findI t l i = (findI t l 0).map fun x => (x.1 + i, x.2)
  | [], i => rfl
  | p :: l, i => by
    unfold findI
    split
    · simp
    · rw [findI_shift t l (i + 1), findI_shift t l (0 + 1)]
      cases findI t l 0 with
      | none => rfl
      | some x => simp; omega

theorem findI_mset (t : Int) (v : Value) : ∀ (l : List Ent3) (j : Nat) (u : Value), findI t l 0 = some (j, u) →
    (l.map ent).modify j (fun e => { e with key := .int .i64 t, val := v }) = (mset t v l).map ent ∧ ((l.map ent)[j]?).map (·.key) = some (.int .i64 t)
  | [], j, u, h => by simp [findI] at h
  | p :: l, j, u, h => by
    unfold findI at h
    by_cases hp : p.1 = t
    · rw [if_pos hp] at h
      simp at h
      obtain ⟨rfl, rfl⟩ := h
      simp [mset, hp, ent]
    · rw [if_neg hp, findI_shift] at h
      cases hf : findI t l 0 with
      | none => rw [hf] at h; simp at h
      | some x =>
        rw [hf] at h
        simp at h
        obtain ⟨rfl, rfl⟩ := h
        obtain ⟨h1, h2⟩ := findI_mset t v l x.1 x.2 (by rw [hf])
        refine ⟨?_, ?_⟩
        · rw [List.map_cons, List.modify_succ_cons, h1]
          simp [mset, hp]
        · simpa using h2

theorem findI_mdel (t : Int) : ∀ (l : List Ent3) (j : Nat) (u : Value), findI t l 0 = some (j, u) → j < l.length ∧ (l.map ent).eraseIdx j = (mdel t l).map ent
  | [], j, u, h => by simp [findI] at h
  | p :: l, j, u, h => by
    unfold findI at h
    by_cases hp : p.1 = t
    · rw [if_pos hp] at h
      simp at h
      obtain ⟨rfl, rfl⟩ := h
      simp [mdel, hp]
    · rw [if_neg hp, findI_shift] at h
      cases hf : findI t l 0 with
      | none => rw [hf] at h; simp at h
      | some x =>
        rw [hf] at h
        simp at h
        obtain ⟨rfl, rfl⟩ := h
        obtain ⟨h1, h2⟩ := findI_mdel t l x.1 x.2 (by rw [hf])
        refine ⟨by simp; omega, ?_⟩
        simp [mdel, hp, h2]

theorem mdel_none (t : Int) : ∀ (l : List Ent3), findI t l 0 = none → mdel t l = l
  | [], _ => rfl
  | p :: l, h => by
    unfold findI at h
    by_cases hp : p.1 = t
    · rw [if_pos hp] at h; simp at h
    · rw [if_neg hp, findI_shift] at h
      have : findI t l 0 = none := by cases hf : findI t l 0 with
        | none => rfl
        | some x => rw [hf] at h; simp at h
      simp [mdel, hp, mdel_none t l this]

/-! ### The pure laws -/
theorem mget_cons (p : Ent3) (l : List Ent3) (u : Int) : mget (p :: l) u = if p.1 = u then some p.2.1 else mget l u := by
  unfold mget
  rw [List.find?_cons]
  by_cases e : p.1 = u
  · have e1 : (p.1 == u) = true := by simp [e]
    rw [e1, if_pos e]; rfl
  · have e1 : (p.1 == u) = false := by simp [e]
    rw [e1, if_neg e]

theorem mget_mset (t : Int) (v : Value) : ∀ (l : List Ent3) (u : Int), mget (mset t v l) u = if u = t ∧ (mget l t).isSome then some v else mget l u
  | [], u => by simp [mset, mget]
  | p :: l, u => by
    have ih := mget_mset t v l u
    unfold mset
    by_cases hp : p.1 = t
    · rw [if_pos hp]
      simp only [mget_cons, hp, if_true, Option.isSome_some, and_true]
      by_cases e : u = t
      · subst e; simp
      · have e' : ¬ t = u := fun h => e h.symm
        simp [e, e']
    · rw [if_neg hp]
      simp only [mget_cons, hp, if_false]
      by_cases e : p.1 = u
      · have : ¬ u = t := by rintro rfl; exact hp e
        simp [e, this]
      · simp only [e, if_false]; exact ih

theorem mget_append (l : List Ent3) (x : Ent3) (u : Int) : mget (l ++ [x]) u = (mget l u).or (if u = x.1 then some x.2.1 else none) := by
  unfold mget
  rw [List.find?_append]
  cases h : l.find? (fun p => p.1 == u) with
  | some y => simp
  | none =>
    simp only [Option.none_or, Option.map_none, List.find?_cons, List.find?_nil]
    by_cases e : u = x.1
    · subst e; simp
    · have e1 : (x.1 == u) = false := by simp; exact fun h => e h.symm
      rw [e1]; simp [e]

theorem mget_mput (l : List Ent3) (c : Nat) (t : Int) (v : Value) (u : Int) : mget (mput l c t v) u = if u = t then some v else mget l u := by
  unfold mput
  split
  · rename_i h
    rw [mget_mset]
    by_cases e : u = t
    · simp [e, h]
    · simp [e]
  · rename_i h
    rw [mget_append]
    by_cases e : u = t
    · subst e
      have : mget l u = none := by simpa using h
      simp [this]
    · simp [e]

theorem mkeys_mset (t : Int) (v : Value) : ∀ (l : List Ent3), mkeys (mset t v l) = mkeys l
  | [] => rfl
  | p :: l => by
    unfold mset
    split
    · rename_i h; simp [mkeys, h]
    · have := mkeys_mset t v l
      unfold mkeys at this ⊢
      simp [this]

theorem mget_none_iff (l : List Ent3) (t : Int) : mget l t = none ↔ t ∉ mkeys l := by
  unfold mget mkeys
  rw [Option.map_eq_none_iff, List.find?_eq_none]
  simp only [List.mem_map, not_exists, not_and]
  constructor
  · intro h p hp e
    have := h p hp
    simp at this
    exact this e
  · intro h p hp
    simp
    exact h p hp

theorem mput_nodup {l : List Ent3} (h : (mkeys l).Nodup) (c : Nat) (t : Int) (v : Value) : (mkeys (mput l c t v)).Nodup := by
  unfold mput
  split
  · rw [mkeys_mset]; exact h
  · rename_i h1
    have h2 : mget l t = none := by simpa using h1
    rw [mget_none_iff] at h2
    unfold mkeys at h h2 ⊢
    rw [List.map_append, List.nodup_append]
    refine ⟨h, by simp, fun a ha b hb => ?_⟩
    simp at hb
    subst hb
    rintro rfl
    exact h2 ha

theorem mdel_sub (t : Int) : ∀ (l : List Ent3), (mdel t l).Sublist l
  | [] => List.Sublist.refl _
  | p :: l => by
    unfold mdel
    split
    · exact List.sublist_cons_self _ _
    · exact (mdel_sub t l).cons_cons _

theorem mdel_nodup {l : List Ent3} (h : (mkeys l).Nodup) (t : Int) : (mkeys (mdel t l)).Nodup := h.sublist ((mdel_sub t l).map _)

theorem mget_mdel {l : List Ent3} (h : (mkeys l).Nodup) (t u : Int) : mget (mdel t l) u = if u = t then none else mget l u := by
  induction l with
  | nil => simp [mdel, mget]
  | cons p l ih =>
    unfold mkeys at h
    simp only [List.map_cons, List.nodup_cons] at h
    have ih' := ih h.2
    unfold mdel
    by_cases hp : p.1 = t
    · rw [if_pos hp]
      by_cases e : u = t
      · rw [if_pos e, mget_none_iff, e, ← hp]; exact h.1
      · rw [if_neg e, mget_cons, if_neg (by omega)]
    · rw [if_neg hp, mget_cons, mget_cons, ih']
      by_cases e : p.1 = u
      · rw [if_pos e, if_pos e, if_neg (by omega)]
      · rw [if_neg e, if_neg e]

/-! ### The operations -/
section
variable {P : Program} {T K E : TypeId}

theorem checkKey_n (hk : P.underlying K = some (.int .i64)) (b : Bool) (n : Nat) (t : Int) (w : World) : (Instr.checkKey b (n + 1) K (.int .i64 t)).run P w = .ok () w := by
  simp [Instr.checkKey, underlying, hk]
theorem checkKey_int (hk : P.underlying K = some (.int .i64)) (b : Bool) (t : Int) (w : World) : (Instr.checkKey b 10000 K (.int .i64 t)).run P w = .ok () w := checkKey_n hk b 9999 t w

theorem findKey_ents (hk : P.underlying K = some (.int .i64)) (l : List Ent3) (t : Int) (w : World) : (Instr.findKey K (.int .i64 t) (ents l).toList).run P w = .ok (findI t l 0) w := by
  simp [Instr.findKey, underlying, hk, ents, findNow_ents]

theorem getObj_run {w : World} {m : Nat} {es : Array MapEntry} {c : Nat} (h : w.heap[m]? = some (.map es c)) : (getObj m).run P w = .ok (.map es c) w := by
  simp [getObj, Sem.run, h]

theorem setObj_run {w : World} {m : Nat} {es : Array MapEntry} {c : Nat} (h : w.heap[m]? = some (.map es c)) (o : Obj) : (setObj m o).run P w = .ok () (putB w m o) := by
  simp [setObj, Sem.run, h, putB]

/-- A look-up. -/
theorem run_lookup (hT : P.underlying T = some (.map K E)) (hk : P.underlying K = some (.int .i64)) {z : Value} (hz : ∀ w, (zeroValue E).run P w = .ok z w) {w : World} {m : Nat} {l : List Ent3} {c : Nat}
    (h : w.heap[m]? = some (.map (ents l) c)) (t : Int) (ty : TypeId) :
    (execOp bare { dst := none, op := .lookup T (.const (.map (some m))) (.const (.int .i64 t)) false, type := ty, pos := "", after := #[], guard := none }).run P w = .ok (.value ((mget l t).getD z)) w := by
  have hf := findI_get t l 0
  cases hg : findI t l 0 with
  | none =>
    rw [hg] at hf
    simp only [Option.map_none] at hf
    simp [execOp, bare, Act.eval, Instr.lookup, underlying, hT, getObj_run h, checkKey_int hk, findKey_ents hk, hg, hz, ← hf]
  | some x =>
    rw [hg] at hf
    simp only [Option.map_some] at hf
    simp [execOp, bare, Act.eval, Instr.lookup, underlying, hT, getObj_run h, checkKey_int hk, findKey_ents hk, hg, ← hf]

/-- The same with ', ok'. -/
theorem run_lookup_ok (hT : P.underlying T = some (.map K E)) (hk : P.underlying K = some (.int .i64)) {z : Value} (hz : ∀ w, (zeroValue E).run P w = .ok z w) {w : World} {m : Nat} {l : List Ent3} {c : Nat}
    (h : w.heap[m]? = some (.map (ents l) c)) (t : Int) (ty : TypeId) :
    (execOp bare { dst := none, op := .lookup T (.const (.map (some m))) (.const (.int .i64 t)) true, type := ty, pos := "", after := #[], guard := none }).run P w = .ok (.value (.tuple #[(mget l t).getD z, .bool (mget l t).isSome])) w := by
  have hf := findI_get t l 0
  cases hg : findI t l 0 with
  | none =>
    rw [hg] at hf
    simp only [Option.map_none] at hf
    simp [execOp, bare, Act.eval, Instr.lookup, underlying, hT, getObj_run h, checkKey_int hk, findKey_ents hk, hg, hz, ← hf]
  | some x =>
    rw [hg] at hf
    simp only [Option.map_some] at hf
    simp [execOp, bare, Act.eval, Instr.lookup, underlying, hT, getObj_run h, checkKey_int hk, findKey_ents hk, hg, ← hf]

/-- A store under a key. -/
theorem run_mapUpdate (hT : P.underlying T = some (.map K E)) (hk : P.underlying K = some (.int .i64)) {w : World} {m : Nat} {l : List Ent3} {c : Nat}
    (h : w.heap[m]? = some (.map (ents l) c)) (t : Int) (v : Value) (ty : TypeId) :
    (execOp bare { dst := none, op := .mapUpdate T (.const (.map (some m))) (.const (.int .i64 t)) (.const v), type := ty, pos := "", after := #[], guard := none }).run P w =
      .ok .skip (putB w m (.map (ents (mput l c t v)) (mclk l c t))) := by
  have hf := findI_get t l 0
  cases hg : findI t l 0 with
  | none =>
    rw [hg] at hf
    simp only [Option.map_none] at hf
    have e : (ents l).push { key := .int .i64 t, val := v, born := c } = ents (l ++ [(t, v, c)]) := by simp [ents, ent]
    simp [execOp, bare, Act.eval, Instr.mapUpdate, underlying, hT, getObj_run h, checkKey_int hk, findKey_ents hk, hg, setObj_run h, mput, mclk, ← hf, e]
  | some x =>
    rw [hg] at hf
    simp only [Option.map_some] at hf
    obtain ⟨h1, h2⟩ := findI_mset t v l x.1 x.2 (by rw [hg])
    have e : ((ents l).modify x.1 fun e => { e with key := .int .i64 t, val := v }) = ents (mset t v l) := by
      unfold ents; rw [List.modify_toArray, h1]
    have e2 : (((ents l)[x.1]?).map (·.key)).getD (.int .i64 t) = .int .i64 t := by
      have : (ents l)[x.1]? = (l.map ent)[x.1]? := by simp [ents]
      rw [this, h2]; rfl
    have e3 : Instr.sameBits 10000 (.int .i64 t) (.int .i64 t) = true := by simp [Instr.sameBits]
    simp [execOp, bare, Act.eval, Instr.mapUpdate, underlying, hT, getObj_run h, checkKey_int hk, findKey_ents hk, hg, setObj_run h, mput, mclk, ← hf, e, e2, Instr.keyThatStays, e3]

/-- delete. -/
theorem run_delete (hT : P.underlying T = some (.map K E)) (hk : P.underlying K = some (.int .i64)) {w : World} {m : Nat} {l : List Ent3} {c : Nat}
    (h : w.heap[m]? = some (.map (ents l) c)) (t : Int) (T2 ty : TypeId) :
    (execOp bare { dst := none, op := .call ⟨.builtin .delete, #[.const (.map (some m)), .const (.int .i64 t)], #[T, T2]⟩, type := ty, pos := "", after := #[], guard := none }).run P w =
      .ok (.value (.tuple #[])) (putB w m (.map (ents (mdel t l)) c)) := by
  cases hg : findI t l 0 with
  | none =>
    rw [mdel_none t l hg]
    simp [execOp, resolve, invoke, builtin, bare, Act.eval, Builtin.delete_, underlying, hT, getObj_run h, checkKey_int hk, findKey_ents hk, hg, setObj_run h]
  | some x =>
    obtain ⟨h1, h2⟩ := findI_mdel t l x.1 x.2 (by rw [hg])
    have e : (ents l).eraseIdxIfInBounds x.1 = ents (mdel t l) := by
      unfold ents
      rw [Array.eraseIdxIfInBounds, dif_pos (by simpa using h1)]
      rw [List.eraseIdx_toArray, h2]
    simp [execOp, resolve, invoke, builtin, bare, Act.eval, Builtin.delete_, underlying, hT, getObj_run h, checkKey_int hk, findKey_ents hk, hg, setObj_run h, e]
end
end Go.Vk
