/-
  The plain law of the scheduler: the program's queues and the document's entities agree, call for call. No condition.
-/
namespace Vk.Sched

/-- One fewer, as Go's int has it. -/
def dec (x : Int) : Int := (x - 1 + 9223372036854775808) % 18446744073709551616 - 9223372036854775808

structure Ent where
  dom : Int
  prio : Int
  left : Int
  ready : Bool
deriving DecidableEq

/-- The program's scheduler, without its memory: turns, where it stands, threads by number, queues by 8 * domain + priority. -/
structure PS where
  turns : List (Int × Int)
  turn : Int
  left : Int
  all : Int → Option Ent
  q : Int → List Int

def up {α : Type} (f : Int → α) (k : Int) (v : α) : Int → α := fun i => if i = k then v else f i
@[simp] theorem up_same {α : Type} (f : Int → α) (k : Int) (v : α) : up f k v k = v := by simp [up]
theorem up_other {α : Type} (f : Int → α) (k i : Int) (v : α) (h : i ≠ k) : up f k v i = f i := by simp [up, h]

def Ent.at (e : Ent) : Int := 8 * e.dom + e.prio
def without (t : Int) (l : List Int) : List Int := l.filter (fun x => !(x == t))

def PS.leave (S : PS) (t : Int) (e : Ent) : PS := { S with q := up S.q e.at (without t (S.q e.at)) }
def PS.last (S : PS) (t : Int) (e : Ent) : PS :=
  { S with q := up S.q e.at (without t (S.q e.at) ++ [t]), all := up S.all t (some { e with left := 5, ready := true }) }

def PS.add (S : PS) (t d p : Int) : Int × PS :=
  if t < 0 ∨ d < 0 ∨ 8 ≤ d ∨ p < 0 ∨ 8 ≤ p then (1, S)
  else match S.all t with
    | some _ => (7, S)
    | none => (0, { S with all := up S.all t (some ⟨d, p, 0, false⟩) })

def PS.remove (S : PS) (t : Int) : Int × PS :=
  match S.all t with
  | none => (6, S)
  | some e => (0, { S.leave t e with all := up S.all t none })

def PS.readyOp (S : PS) (t : Int) : Int × PS :=
  match S.all t with
  | none => (6, S)
  | some e => if e.ready then (16, S) else (0, S.last t e)

def PS.block (S : PS) (t : Int) : Int × PS :=
  match S.all t with
  | none => (6, S)
  | some e => if e.ready then (0, { S.leave t e with all := up S.all t (some { e with left := 0, ready := false }) }) else (16, S)

def PS.yield (S : PS) (t : Int) : Int × PS :=
  match S.all t with
  | none => (6, S)
  | some e => if e.ready then (0, S.last t e) else (16, S)

def PS.prio (S : PS) (t p : Int) : Int × PS :=
  match S.all t with
  | none => (6, S)
  | some e =>
    if p < 0 ∨ 8 ≤ p then (1, S)
    else
      let S1 : PS := { S.leave t e with all := up S.all t (some { e with prio := p }) }
      if e.ready then (0, S1.last t { e with prio := p }) else (0, S1)

/-- The tick is taken off the turn. -/
def PS.tick (S : PS) : PS :=
  if S.left = 0 then
    let t := (S.turn + 1) % S.turns.length
    { S with turn := t, left := (S.turns.getD t.toNat (0, 0)).2 - 1 }
  else { S with left := S.left - 1 }

def PS.dom (S : PS) : Int := (S.turns.getD S.turn.toNat (0, 0)).1

/-- The queue of a domain with the highest priority below k that is not empty. -/
def PS.top (S : PS) (d : Int) : Nat → Option (Int × Int)
  | 0 => none
  | k + 1 => match S.q (8 * d + k) with
    | t :: _ => some (k, t)
    | [] => S.top d k

def PS.next (S0 : PS) : Int × PS :=
  let S := S0.tick
  match S.top S.dom 8 with
  | none => (-1, S)
  | some (p, t) =>
    match S.all t with
    | none => (-1, S)      -- never
    | some e =>
      let S1 := if e.left = 0 then S.last t e else S
      let t1 := (S1.q (8 * S.dom + p)).headD (-1)
      match S1.all t1 with
      | none => (-1, S)    -- never
      | some e1 => (t1, { S1 with all := up S1.all t1 (some { e1 with left := dec e1.left }) })

def PS.queue (S : PS) (d p : Int) : List Int × Int :=
  if d < 0 ∨ 8 ≤ d ∨ p < 0 ∨ 8 ≤ p then ([], 1) else (S.q (8 * d + p), 0)

def PS.look (S : PS) (t : Int) : Int × Int × Int × Int :=
  match S.all t with
  | none => (0, 0, 0, 6)
  | some e => (e.dom, e.prio, e.left, 0)

/-! ### The document's -/
structure RE where
  num : Int
  dom : Int
  prio : Int
  left : Int
  came : Int

structure RS where
  turns : List (Int × Int)
  turn : Int
  left : Int
  L : List RE
  clock : Int

def RS.find (R : RS) (t : Int) : Option Nat := R.L.findIdx? (fun e => e.num == t)

def RS.lastAt (R : RS) (i : Nat) : RS :=
  { R with clock := R.clock + 1, L := R.L.modify i fun e => { e with came := R.clock + 1, left := 5 } }

def RS.add (R : RS) (t d p : Int) : Int × RS :=
  if t < 0 ∨ d < 0 ∨ 7 < d ∨ p < 0 ∨ 7 < p then (1, R)
  else match R.find t with
    | some _ => (7, R)
    | none => (0, { R with L := R.L ++ [⟨t, d, p, 0, 0⟩] })

def RS.remove (R : RS) (t : Int) : Int × RS :=
  match R.find t with
  | none => (6, R)
  | some i => (0, { R with L := R.L.take i ++ R.L.drop (i + 1) })

def RS.readyOp (R : RS) (t : Int) : Int × RS :=
  match R.find t with
  | none => (6, R)
  | some i => if 0 < (R.L.getD i ⟨0, 0, 0, 0, 0⟩).came then (16, R) else (0, R.lastAt i)

def RS.block (R : RS) (t : Int) : Int × RS :=
  match R.find t with
  | none => (6, R)
  | some i => if (R.L.getD i ⟨0, 0, 0, 0, 0⟩).came = 0 then (16, R) else (0, { R with L := R.L.modify i fun e => { e with came := 0, left := 0 } })

def RS.yield (R : RS) (t : Int) : Int × RS :=
  match R.find t with
  | none => (6, R)
  | some i => if (R.L.getD i ⟨0, 0, 0, 0, 0⟩).came = 0 then (16, R) else (0, R.lastAt i)

def RS.prio (R : RS) (t p : Int) : Int × RS :=
  match R.find t with
  | none => (6, R)
  | some i =>
    if p < 0 ∨ 7 < p then (1, R)
    else
      let R1 : RS := { R with L := R.L.modify i fun e => { e with prio := p } }
      if 0 < (R1.L.getD i ⟨0, 0, 0, 0, 0⟩).came then (0, R1.lastAt i) else (0, R1)

def RS.tick (R : RS) : RS :=
  if R.left = 0 then
    let t := (R.turn + 1) % R.turns.length
    { R with turn := t, left := (R.turns.getD t.toNat (0, 0)).2 - 1 }
  else { R with left := R.left - 1 }

def RS.dom (R : RS) : Int := (R.turns.getD R.turn.toNat (0, 0)).1

/-- One step of 'first': is entity i better than the best so far? -/
def better (L : List RE) (d : Int) (best : Option Nat) (i : Nat) : Option Nat :=
  let x := L.getD i ⟨0, 0, 0, 0, 0⟩
  if x.dom ≠ d ∨ x.came = 0 then best
  else match best with
    | none => some i
    | some b =>
      let y := L.getD b ⟨0, 0, 0, 0, 0⟩
      if y.prio < x.prio ∨ (x.prio = y.prio ∧ x.came < y.came) then some i else some b

def firstTo (L : List RE) (d : Int) : Nat → Option Nat
  | 0 => none
  | k + 1 => better L d (firstTo L d k) k

def RS.first (R : RS) (d : Int) : Option Nat := firstTo R.L d R.L.length

def RS.next (R0 : RS) : Int × RS :=
  let R := R0.tick
  let d := R.dom
  let i := R.first d
  let R1i := match i with
    | some i => if (R.L.getD i ⟨0, 0, 0, 0, 0⟩).left = 0 then (R.lastAt i, (R.lastAt i).first d) else (R, some i)
    | none => (R, none)
  match R1i with
  | (R1, none) => (-1, R1)
  | (R1, some i) => ((R1.L.getD i ⟨0, 0, 0, 0, 0⟩).num, { R1 with L := R1.L.modify i fun e => { e with left := dec e.left } })

/-- Insertion from behind, by 'came'. -/
def ins (x : RE) : List RE → List RE
  | [] => [x]
  | y :: l => if x.came < y.came then x :: y :: l else y :: ins x l

def sortTo (L : List RE) (d p : Int) : Nat → List RE
  | 0 => []
  | k + 1 =>
    let x := L.getD k ⟨0, 0, 0, 0, 0⟩
    if x.dom ≠ d ∨ x.prio ≠ p ∨ x.came = 0 then sortTo L d p k else ins x (sortTo L d p k)

def RS.queue (R : RS) (d p : Int) : List Int × Int :=
  if d < 0 ∨ 7 < d ∨ p < 0 ∨ 7 < p then ([], 1) else ((sortTo R.L d p R.L.length).map (·.num), 0)

def RS.look (R : RS) (t : Int) : Int × Int × Int × Int :=
  match R.find t with
  | none => (0, 0, 0, 6)
  | some i => let e := R.L.getD i ⟨0, 0, 0, 0, 0⟩; (e.dom, e.prio, e.left, 0)
end Vk.Sched

namespace Vk.Sched

/-- The ready entities of a queue: strictly by when they came, and just these. -/
def IsQ (L : List RE) (d p : Int) (es : List RE) : Prop :=
  es.Pairwise (fun a b => a.came < b.came) ∧ ∀ e, e ∈ es ↔ e ∈ L ∧ e.dom = d ∧ e.prio = p ∧ 0 < e.came

structure Wf (R : RS) : Prop where
  nodup : (R.L.map (·.num)).Nodup
  bd : ∀ e ∈ R.L, 0 ≤ e.num ∧ 0 ≤ e.dom ∧ e.dom ≤ 7 ∧ 0 ≤ e.prio ∧ e.prio ≤ 7 ∧ 0 ≤ e.came ∧ e.came ≤ R.clock
  came : ∀ e ∈ R.L, ∀ f ∈ R.L, 0 < e.came → e.came = f.came → e = f
  clock : 0 ≤ R.clock
  turns : 1 ≤ R.turns.length ∧ R.turns.length ≤ 16 ∧ ∀ x ∈ R.turns, 0 ≤ x.1 ∧ x.1 ≤ 7 ∧ 1 ≤ x.2 ∧ x.2 ≤ 1000
  turn : 0 ≤ R.turn ∧ R.turn < R.turns.length
  left : 0 ≤ R.left ∧ R.left ≤ 1000

structure Sim (S : PS) (R : RS) : Prop where
  turns : S.turns = R.turns
  turn : S.turn = R.turn
  left : S.left = R.left
  wf : Wf R
  all : ∀ t, S.all t = (R.L.find? (fun e => e.num == t)).map fun e => ⟨e.dom, e.prio, e.left, decide (0 < e.came)⟩
  q : ∀ d p, 0 ≤ d → d ≤ 7 → 0 ≤ p → p ≤ 7 → ∃ es, IsQ R.L d p es ∧ S.q (8 * d + p) = es.map (·.num)

theorem pw_unique : ∀ {a b : List RE}, a.Pairwise (fun x y => x.came < y.came) → b.Pairwise (fun x y => x.came < y.came) → (∀ e, e ∈ a ↔ e ∈ b) → a = b
  | [], [], _, _, _ => rfl
  | [], y :: b, _, _, h => by have := (h y).2 (by simp); simp at this
  | x :: a, [], _, _, h => by have := (h x).1 (by simp); simp at this
  | x :: a, y :: b, ha, hb, h => by
    have hxy : x = y := by
      rcases List.mem_cons.1 ((h x).1 (by simp)) with e | e
      · exact e
      · rcases List.mem_cons.1 ((h y).2 (by simp)) with e' | e'
        · exact e'.symm
        · have h1 := List.rel_of_pairwise_cons ha e'
          have h2 := List.rel_of_pairwise_cons hb e
          omega
    subst hxy
    rw [pw_unique (List.Pairwise.of_cons ha) (List.Pairwise.of_cons hb) fun e => ?_]
    have hx : x ∉ a := fun h' => by have := List.rel_of_pairwise_cons ha h'; omega
    have hx' : x ∉ b := fun h' => by have := List.rel_of_pairwise_cons hb h'; omega
    have := h e
    simp only [List.mem_cons] at this
    constructor
    · intro he
      rcases this.1 (.inr he) with rfl | h2
      · exact absurd he hx
      · exact h2
    · intro he
      rcases this.2 (.inr he) with rfl | h2
      · exact absurd he hx'
      · exact h2

theorem IsQ.unique {L : List RE} {d p : Int} {a b : List RE} (ha : IsQ L d p a) (hb : IsQ L d p b) : a = b :=
  pw_unique ha.1 hb.1 fun e => (ha.2 e).trans (hb.2 e).symm

/-! ### Finding -/
theorem find_some {R : RS} {t : Int} {i : Nat} (h : R.find t = some i) : ∃ hi : i < R.L.length, R.L[i].num = t ∧ R.L.find? (fun e => e.num == t) = some R.L[i] := by
  unfold RS.find at h
  rw [List.findIdx?_eq_some_iff_getElem] at h
  obtain ⟨hi, h1, h2⟩ := h
  refine ⟨hi, by simpa using h1, ?_⟩
  rw [List.find?_eq_some_iff_getElem]
  exact ⟨h1, i, hi, rfl, fun j hj => by simpa using h2 j hj⟩

theorem find_none {R : RS} {t : Int} (h : R.find t = none) : R.L.find? (fun e => e.num == t) = none := by
  unfold RS.find at h
  rw [List.findIdx?_eq_none_iff] at h
  rw [List.find?_eq_none]
  intro x hx
  have := h x hx
  simpa using this

theorem find?_num {L : List RE} (hn : (L.map (·.num)).Nodup) {i : Nat} (hi : i < L.length) : L.find? (fun e => e.num == L[i].num) = some L[i] := by
  rw [List.find?_eq_some_iff_getElem]
  refine ⟨by simp, i, hi, rfl, fun j hj => ?_⟩
  have : (L.map (·.num))[j]'(by simp; omega) ≠ (L.map (·.num))[i]'(by simp; omega) := by
    intro h
    have := (List.getElem_inj hn).1 h
    omega
  simpa using this

/-- Same number, same entity. -/
theorem num_inj {L : List RE} (hn : (L.map (·.num)).Nodup) {e f : RE} (he : e ∈ L) (hf : f ∈ L) (h : e.num = f.num) : e = f := by
  obtain ⟨i, hi, rfl⟩ := List.getElem_of_mem he
  obtain ⟨j, hj, rfl⟩ := List.getElem_of_mem hf
  have : (L.map (·.num))[i]'(by simp; omega) = (L.map (·.num))[j]'(by simp; omega) := by simpa using h
  have := (List.getElem_inj hn).1 this
  subst this; rfl

/-! ### An entity is changed, its number is not -/
section
variable {L : List RE} {i : Nat} {f : RE → RE}

theorem nums_modify (hf : ∀ e, (f e).num = e.num) : (L.modify i f).map (·.num) = L.map (·.num) := by
  apply List.ext_getElem
  · simp
  · intro j h1 h2
    simp only [List.getElem_map, List.getElem_modify]
    split <;> simp [hf]

theorem mem_modify (hn : (L.map (·.num)).Nodup) (hi : i < L.length) (e : RE) : e ∈ L.modify i f ↔ (e = f L[i]) ∨ (e ∈ L ∧ e.num ≠ L[i].num) := by
  rw [List.mem_iff_getElem]
  constructor
  · rintro ⟨j, hj, rfl⟩
    simp only [List.length_modify] at hj
    rw [List.getElem_modify]
    by_cases h : i = j
    · subst h; simp
    · rw [if_neg h]
      refine .inr ⟨List.getElem_mem _, fun h' => h ?_⟩
      have : (L.map (·.num))[i]'(by simp; omega) = (L.map (·.num))[j]'(by simp; omega) := by simpa using h'.symm
      exact (List.getElem_inj hn).1 this
  · rintro (rfl | ⟨h, hne⟩)
    · exact ⟨i, by simpa using hi, by simp ⟩
    · obtain ⟨j, hj, rfl⟩ := List.getElem_of_mem h
      refine ⟨j, by simpa using hj, ?_⟩
      rw [List.getElem_modify, if_neg]
      rintro rfl
      exact hne rfl

theorem find?_modify (hn : (L.map (·.num)).Nodup) (hi : i < L.length) (hf : ∀ e, (f e).num = e.num) (t : Int) :
    (L.modify i f).find? (fun e => e.num == t) = if t = L[i].num then some (f L[i]) else L.find? (fun e => e.num == t) := by
  have hn' : ((L.modify i f).map (·.num)).Nodup := by rw [nums_modify hf]; exact hn
  split
  · rename_i h
    subst h
    have := find?_num hn' (i := i) (by simpa using hi)
    simpa [hf] using this
  · rename_i h
    cases hx : L.find? (fun e => e.num == t) with
    | none =>
      rw [List.find?_eq_none] at hx ⊢
      intro x hx'
      rcases (mem_modify hn hi x).1 hx' with rfl | ⟨h1, _⟩
      · simp [hf]; exact fun h' => h h'.symm
      · exact hx x h1
    | some e =>
      have he := List.mem_of_find?_eq_some hx
      have hp := List.find?_some hx
      have hmem : e ∈ L.modify i f := (mem_modify hn hi e).2 (.inr ⟨he, fun h' => h (by simp at hp; omega)⟩)
      obtain ⟨j, hj, hje⟩ := List.getElem_of_mem hmem
      have := find?_num hn' hj
      rw [hje] at this
      simp at hp
      rw [hp] at this
      exact this
end
end Vk.Sched

namespace Vk.Sched

theorem map_filter_num (t : Int) (es : List RE) : (es.filter fun x => !(x.num == t)).map (·.num) = without t (es.map (·.num)) := by
  unfold without
  rw [List.filter_map]
  rfl

/-- It leaves: what is changed stands in this queue no more. -/
theorem IsQ.leaves {L : List RE} {i : Nat} {f : RE → RE} {d p : Int} {es : List RE} (h : IsQ L d p es) (hn : (L.map (·.num)).Nodup) (hi : i < L.length)
    (hno : ¬ ((f L[i]).dom = d ∧ (f L[i]).prio = p ∧ 0 < (f L[i]).came)) : IsQ (L.modify i f) d p (es.filter fun x => !(x.num == L[i].num)) := by
  refine ⟨h.1.sublist List.filter_sublist, fun e => ?_⟩
  rw [mem_modify hn hi, List.mem_filter, h.2 e]
  simp only [Bool.not_eq_true', beq_eq_false_iff_ne]
  constructor
  · rintro ⟨⟨h1, h2⟩, h3⟩; exact ⟨.inr ⟨h1, h3⟩, h2⟩
  · rintro ⟨rfl | ⟨h1, h3⟩, h2⟩
    · exact absurd h2 hno
    · exact ⟨⟨h1, h2⟩, h3⟩

/-- It comes: behind all others. -/
theorem IsQ.comes {L : List RE} {i : Nat} {f : RE → RE} {d p : Int} {es : List RE} (h : IsQ L d p es) (hn : (L.map (·.num)).Nodup) (hi : i < L.length)
    (hyes : (f L[i]).dom = d ∧ (f L[i]).prio = p ∧ 0 < (f L[i]).came) (hlast : ∀ e ∈ L, e.came < (f L[i]).came) :
    IsQ (L.modify i f) d p ((es.filter fun x => !(x.num == L[i].num)) ++ [f L[i]]) := by
  refine ⟨?_, fun e => ?_⟩
  · rw [List.pairwise_append]
    refine ⟨h.1.sublist List.filter_sublist, by simp, fun a ha b hb => ?_⟩
    simp only [List.mem_singleton] at hb
    subst hb
    exact hlast a ((h.2 a).1 (List.mem_filter.1 ha).1).1
  · rw [mem_modify hn hi, List.mem_append, List.mem_filter, h.2 e]
    simp only [Bool.not_eq_true', beq_eq_false_iff_ne, List.mem_singleton]
    constructor
    · rintro (⟨⟨h1, h2⟩, h3⟩ | rfl)
      · exact ⟨.inr ⟨h1, h3⟩, h2⟩
      · exact ⟨.inl rfl, hyes⟩
    · rintro ⟨rfl | ⟨h1, h3⟩, h2⟩
      · exact .inr rfl
      · exact .inl ⟨⟨h1, h2⟩, h3⟩

/-- It stays where it is. -/
theorem IsQ.stays {L : List RE} {i : Nat} {f : RE → RE} {d p : Int} {es : List RE} (h : IsQ L d p es) (hn : (L.map (·.num)).Nodup) (hi : i < L.length)
    (hd : (f L[i]).dom = L[i].dom) (hp : (f L[i]).prio = L[i].prio) (hc : (f L[i]).came = L[i].came) (_hnum : (f L[i]).num = L[i].num) :
    IsQ (L.modify i f) d p (es.map fun x => if x.num = L[i].num then f L[i] else x) := by
  have hes : ∀ x ∈ es, x ∈ L := fun x hx => ((h.2 x).1 hx).1
  have heq : ∀ x ∈ es, x.num = L[i].num → x = L[i] := fun x hx e => num_inj hn (hes x hx) (List.getElem_mem _) e
  refine ⟨?_, fun e => ?_⟩
  · rw [List.pairwise_map]
    refine h.1.imp_of_mem fun {a b} ha hb hab => ?_
    have e1 : (if a.num = L[i].num then f L[i] else a).came = a.came := by
      split
      · rename_i e; rw [hc, heq a ha e]
      · rfl
    have e2 : (if b.num = L[i].num then f L[i] else b).came = b.came := by
      split
      · rename_i e; rw [hc, heq b hb e]
      · rfl
    omega
  · rw [mem_modify hn hi, List.mem_map]
    constructor
    · rintro ⟨x, hx, rfl⟩
      obtain ⟨h1, h2, h3, h4⟩ := (h.2 x).1 hx
      split
      · rename_i e
        have := heq x hx e; subst this
        exact ⟨.inl rfl, by omega, by omega, by omega⟩
      · rename_i e
        exact ⟨.inr ⟨h1, e⟩, h2, h3, h4⟩
    · rintro ⟨rfl | ⟨h1, h3⟩, h2⟩
      · exact ⟨L[i], (h.2 _).2 ⟨List.getElem_mem _, by omega, by omega, by omega⟩, by simp⟩
      · exact ⟨e, (h.2 _).2 ⟨h1, h2⟩, by rw [if_neg h3]⟩

theorem map_num_stays {L : List RE} {i : Nat} {f : RE → RE} {es : List RE} (hi : i < L.length) (hnum : (f L[i]).num = L[i].num) :
    (es.map fun x => if x.num = L[i].num then f L[i] else x).map (·.num) = es.map (·.num) := by
  rw [List.map_map]
  apply List.map_congr_left
  intro x _
  simp only [Function.comp]
  split
  · rename_i e; rw [hnum, e]
  · rfl

theorem without_no {t : Int} {l : List Int} (h : t ∉ l) : without t l = l := by
  unfold without
  rw [List.filter_eq_self]
  intro a ha
  simp
  rintro rfl
  exact h ha

theorem mem_q {L : List RE} {d p : Int} {es : List RE} (h : IsQ L d p es) (t : Int) : t ∈ es.map (·.num) ↔ ∃ e ∈ L, e.num = t ∧ e.dom = d ∧ e.prio = p ∧ 0 < e.came := by
  rw [List.mem_map]
  constructor
  · rintro ⟨e, he, rfl⟩
    obtain ⟨h1, h2⟩ := (h.2 e).1 he
    exact ⟨e, h1, rfl, h2⟩
  · rintro ⟨e, h1, rfl, h2⟩
    exact ⟨e, (h.2 e).2 ⟨h1, h2⟩, rfl⟩

section
variable {S : PS} {R : RS}

theorem Sim.ent (h : Sim S R) {t : Int} {i : Nat} (hf : R.find t = some i) : ∃ hi : i < R.L.length, R.L[i].num = t ∧
    S.all t = some ⟨R.L[i].dom, R.L[i].prio, R.L[i].left, decide (0 < R.L[i].came)⟩ := by
  obtain ⟨hi, h1, h2⟩ := find_some hf
  exact ⟨hi, h1, by rw [h.all, h2]; rfl⟩

theorem Sim.noent (h : Sim S R) {t : Int} (hf : R.find t = none) : S.all t = none := by rw [h.all, find_none hf]; rfl

/-- All queues but a thread's own are as they were, its own is without it. -/
theorem Sim.leave_q (h : Sim S R) {i : Nat} (hi : i < R.L.length) {en : Ent} (hd : en.dom = R.L[i].dom) (hp : en.prio = R.L[i].prio)
    {d p : Int} (d0 : 0 ≤ d) (d7 : d ≤ 7) (p0 : 0 ≤ p) (p7 : p ≤ 7) : (S.leave R.L[i].num en).q (8 * d + p) = without R.L[i].num (S.q (8 * d + p)) := by
  obtain ⟨_, b1, b2, b3, b4, _⟩ := h.wf.bd _ (List.getElem_mem hi)
  unfold PS.leave
  simp only
  by_cases e : 8 * d + p = en.at
  · rw [e, up_same]
  · rw [up_other _ _ _ _ e]
    obtain ⟨es, hq, hs⟩ := h.q d p d0 d7 p0 p7
    rw [without_no]
    rw [hs, mem_q hq]
    rintro ⟨x, hx, h1, h2, h3, h4⟩
    have := num_inj h.wf.nodup hx (List.getElem_mem hi) h1
    subst this
    unfold Ent.at at e
    omega

theorem Sim.last_q (h : Sim S R) {i : Nat} (hi : i < R.L.length) {en : Ent} (hd : en.dom = R.L[i].dom) (hp : en.prio = R.L[i].prio)
    {d p : Int} (d0 : 0 ≤ d) (d7 : d ≤ 7) (p0 : 0 ≤ p) (p7 : p ≤ 7) : (S.last R.L[i].num en).q (8 * d + p) =
      without R.L[i].num (S.q (8 * d + p)) ++ (if R.L[i].dom = d ∧ R.L[i].prio = p then [R.L[i].num] else []) := by
  obtain ⟨_, b1, b2, b3, b4, _⟩ := h.wf.bd _ (List.getElem_mem hi)
  have hl := h.leave_q hi hd hp d0 d7 p0 p7
  unfold PS.leave at hl
  unfold PS.last
  simp only at hl ⊢
  by_cases e : 8 * d + p = en.at
  · rw [if_pos (by unfold Ent.at at e; omega)]
    rw [e, up_same] at hl ⊢
  · rw [if_neg (by unfold Ent.at at e; omega)]
    rw [up_other _ _ _ _ e] at hl ⊢
    simpa using hl

theorem getD_eq (L : List RE) (z : RE) {i : Nat} (hi : i < L.length) : L.getD i z = L[i] := by simp [List.getD_eq_getElem?_getD, hi]

/-- What becomes of a well formed one when one entity is changed. -/
theorem Wf.modify (h : Wf R) {i : Nat} (hi : i < R.L.length) {f : RE → RE} (hf : ∀ e, (f e).num = e.num) {c : Int} (hc : R.clock ≤ c)
    (hb : 0 ≤ (f R.L[i]).dom ∧ (f R.L[i]).dom ≤ 7 ∧ 0 ≤ (f R.L[i]).prio ∧ (f R.L[i]).prio ≤ 7 ∧ 0 ≤ (f R.L[i]).came ∧ (f R.L[i]).came ≤ c)
    (hcame : (f R.L[i]).came = 0 ∨ (f R.L[i]).came = R.L[i].came ∨ R.clock < (f R.L[i]).came) : Wf { R with L := R.L.modify i f, clock := c } := by
  refine ⟨by simpa [nums_modify hf] using h.nodup, ?_, ?_, by have := h.clock; show 0 ≤ c; omega, h.turns, h.turn, h.left⟩
  · intro e he
    rcases (mem_modify h.nodup hi e).1 he with rfl | ⟨h1, _⟩
    · have := (h.bd _ (List.getElem_mem hi)).1
      refine ⟨by rw [hf]; omega, hb⟩
    · have := h.bd e h1
      refine ⟨this.1, this.2.1, this.2.2.1, this.2.2.2.1, this.2.2.2.2.1, this.2.2.2.2.2.1, ?_⟩
      have := this.2.2.2.2.2.2
      show e.came ≤ c
      omega
  · intro e he e' he' h0 heq
    rcases (mem_modify h.nodup hi e).1 he with rfl | ⟨h1, hne⟩ <;> rcases (mem_modify h.nodup hi e').1 he' with rfl | ⟨h1', hne'⟩
    · rfl
    · rcases hcame with hz | hz | hz
      · omega
      · have := h.came _ (List.getElem_mem hi) e' h1' (by omega) (by omega)
        subst this; exact absurd rfl hne'
      · have := (h.bd e' h1').2.2.2.2.2.2; omega
    · rcases hcame with hz | hz | hz
      · omega
      · have := h.came e h1 _ (List.getElem_mem hi) h0 (by omega)
        subst this; exact absurd rfl hne
      · have := (h.bd e h1).2.2.2.2.2.2; omega
    · exact h.came e h1 e' h1' h0 heq

/-- It comes to its queue's end. -/
theorem Sim.last (h : Sim S R) {i : Nat} (hi : i < R.L.length) {en : Ent} (hd : en.dom = R.L[i].dom) (hp : en.prio = R.L[i].prio) :
    Sim (S.last R.L[i].num en) (R.lastAt i) := by
  have hb := h.wf.bd _ (List.getElem_mem hi)
  have hcl := h.wf.clock
  have hw : Wf (R.lastAt i) := h.wf.modify hi (f := fun e => { e with came := R.clock + 1, left := 5 }) (fun _ => rfl) (by omega) ⟨by simp; omega, by simp; omega, by simp; omega, by simp; omega, by simp; omega, by simp⟩ (.inr (.inr (by simp; omega)))
  refine ⟨h.turns, h.turn, h.left, hw, fun t => ?_, fun d p d0 d7 p0 p7 => ?_⟩
  · show up S.all R.L[i].num _ t = _
    unfold RS.lastAt
    simp only
    rw [find?_modify h.wf.nodup hi (by intro _; rfl)]
    by_cases e : t = R.L[i].num
    · rw [if_pos e, e, up_same]
      have : 0 < R.clock + 1 := by omega
      simp [hd, hp, this]
    · rw [if_neg e, up_other _ _ _ _ e, h.all]
  · obtain ⟨es, hq, hs⟩ := h.q d p d0 d7 p0 p7
    rw [h.last_q hi hd hp d0 d7 p0 p7, hs, ← map_filter_num]
    unfold RS.lastAt
    simp only
    by_cases e : R.L[i].dom = d ∧ R.L[i].prio = p
    · refine ⟨_, hq.comes h.wf.nodup hi ⟨e.1, e.2, by simp; omega⟩ (fun x hx => ?_), by rw [if_pos e]; simp⟩
      have := (h.wf.bd x hx).2.2.2.2.2.2
      simp; omega
    · exact ⟨_, hq.leaves h.wf.nodup hi (fun h' => e ⟨h'.1, h'.2.1⟩), by rw [if_neg e]; simp⟩
end
end Vk.Sched

namespace Vk.Sched
section
variable {S : PS} {R : RS}

theorem lookD (L : List RE) {i : Nat} (hi : i < L.length) : L.getD i ⟨0, 0, 0, 0, 0⟩ = L[i] := getD_eq L _ hi

theorem Sim.add (h : Sim S R) (t d p : Int) : (S.add t d p).1 = (R.add t d p).1 ∧ Sim (S.add t d p).2 (R.add t d p).2 := by
  unfold PS.add RS.add
  by_cases hb : t < 0 ∨ d < 0 ∨ 8 ≤ d ∨ p < 0 ∨ 8 ≤ p
  · rw [if_pos hb, if_pos (by omega)]; exact ⟨rfl, h⟩
  · rw [if_neg hb, if_neg (by omega)]
    cases hf : R.find t with
    | some i =>
      obtain ⟨hi, h1, h2⟩ := h.ent hf
      rw [h2]; exact ⟨rfl, h⟩
    | none =>
      rw [h.noent hf]
      have hfn := find_none hf
      have hnot : ∀ e ∈ R.L, e.num ≠ t := by
        intro e he h'
        rw [List.find?_eq_none] at hfn
        have := hfn e he
        simp at this; exact this h'
      refine ⟨rfl, h.turns, h.turn, h.left, ⟨?_, ?_, ?_, h.wf.clock, h.wf.turns, h.wf.turn, h.wf.left⟩, fun u => ?_, fun d' p' d0 d7 p0 p7 => ?_⟩
      · simp only [List.map_append, List.map_cons, List.map_nil]
        rw [List.nodup_append]
        refine ⟨h.wf.nodup, by simp, fun a ha b hb' => ?_⟩
        simp only [List.mem_singleton] at hb'
        obtain ⟨e, he, rfl⟩ := List.mem_map.1 ha
        subst hb'; exact hnot e he
      · intro e he
        rcases List.mem_append.1 he with he | he
        · exact h.wf.bd e he
        · simp only [List.mem_singleton] at he
          subst he
          have := h.wf.clock
          simp; omega
      · intro e he e' he' h0 heq
        rcases List.mem_append.1 he with he | he
        · rcases List.mem_append.1 he' with he' | he'
          · exact h.wf.came e he e' he' h0 heq
          · simp only [List.mem_singleton] at he'
            subst he'; simp at heq; omega
        · simp only [List.mem_singleton] at he
          subst he; simp at h0
      · show up S.all t _ u = _
        simp only [List.find?_append]
        by_cases e : u = t
        · subst e; rw [up_same, hfn]; simp
        · rw [up_other _ _ _ _ e, h.all]
          cases hx : R.L.find? (fun e => e.num == u) with
          | some x => simp
          | none => simp; omega
      · obtain ⟨es, hq, hs⟩ := h.q d' p' d0 d7 p0 p7
        refine ⟨es, ⟨hq.1, fun e => ?_⟩, hs⟩
        rw [hq.2]
        simp only [List.mem_append, List.mem_singleton]
        constructor
        · rintro ⟨h1, h2⟩; exact ⟨.inl h1, h2⟩
        · rintro ⟨h1 | rfl, h2⟩
          · exact ⟨h1, h2⟩
          · simp at h2

theorem mem_erase {L : List RE} (hn : (L.map (·.num)).Nodup) {i : Nat} (hi : i < L.length) (e : RE) : e ∈ L.take i ++ L.drop (i + 1) ↔ e ∈ L ∧ e.num ≠ L[i].num := by
  rw [← List.eraseIdx_eq_take_drop_succ, List.mem_eraseIdx_iff_getElem]
  constructor
  · rintro ⟨j, hj, hne, rfl⟩
    refine ⟨List.getElem_mem _, fun h' => hne ?_⟩
    have : (L.map (·.num))[j]'(by simp; omega) = (L.map (·.num))[i]'(by simp; omega) := by simpa using h'
    exact (List.getElem_inj hn).1 this
  · rintro ⟨h1, h2⟩
    obtain ⟨j, hj, rfl⟩ := List.getElem_of_mem h1
    exact ⟨j, hj, fun h' => by subst h'; exact h2 rfl, rfl⟩

theorem Sim.remove (h : Sim S R) (t : Int) : (S.remove t).1 = (R.remove t).1 ∧ Sim (S.remove t).2 (R.remove t).2 := by
  unfold PS.remove RS.remove
  cases hf : R.find t with
  | none => rw [h.noent hf]; exact ⟨rfl, h⟩
  | some i =>
    obtain ⟨hi, h1, h2⟩ := h.ent hf
    rw [h2]
    subst h1
    have hm := mem_erase h.wf.nodup hi
    have hsub : (R.L.take i ++ R.L.drop (i + 1)).Sublist R.L := by rw [← List.eraseIdx_eq_take_drop_succ]; exact List.eraseIdx_sublist _ _
    have hn' : ((R.L.take i ++ R.L.drop (i + 1)).map (·.num)).Nodup := h.wf.nodup.sublist (hsub.map _)
    refine ⟨rfl, h.turns, h.turn, h.left, ⟨hn', fun e he => h.wf.bd e (hsub.subset he), fun e he e' he' => h.wf.came e (hsub.subset he) e' (hsub.subset he'), h.wf.clock, h.wf.turns, h.wf.turn, h.wf.left⟩, fun u => ?_, fun d p d0 d7 p0 p7 => ?_⟩
    · show up S.all _ none u = _
      simp only
      by_cases e : u = R.L[i].num
      · rw [e, up_same]
        have : (R.L.take i ++ R.L.drop (i + 1)).find? (fun e => e.num == R.L[i].num) = none := by
          rw [List.find?_eq_none]; intro x hx; simp; exact ((hm x).1 hx).2
        rw [this]; rfl
      · rw [up_other _ _ _ _ e, h.all]
        cases hx : R.L.find? (fun e => e.num == u) with
        | none =>
          have : (R.L.take i ++ R.L.drop (i + 1)).find? (fun e => e.num == u) = none := by
            rw [List.find?_eq_none] at hx ⊢; exact fun x hx' => hx x (hsub.subset hx')
          rw [this]
        | some x =>
          have hxm := List.mem_of_find?_eq_some hx
          have hxp := List.find?_some hx
          simp at hxp
          have hx' : x ∈ R.L.take i ++ R.L.drop (i + 1) := (hm x).2 ⟨hxm, by rw [hxp]; exact e⟩
          obtain ⟨j, hj, hje⟩ := List.getElem_of_mem hx'
          have := find?_num hn' hj
          rw [hje, hxp] at this
          rw [this]
    · obtain ⟨es, hq, hs⟩ := h.q d p d0 d7 p0 p7
      refine ⟨es.filter fun x => !(x.num == R.L[i].num), ⟨hq.1.sublist List.filter_sublist, fun e => ?_⟩, ?_⟩
      · rw [List.mem_filter, hq.2, hm]
        simp
        constructor
        · rintro ⟨⟨a, b⟩, c⟩; exact ⟨⟨a, c⟩, b⟩
        · rintro ⟨⟨a, c⟩, b⟩; exact ⟨⟨a, b⟩, c⟩
      · rw [map_filter_num, ← hs]
        exact h.leave_q (en := ⟨R.L[i].dom, R.L[i].prio, R.L[i].left, decide (0 < R.L[i].came)⟩) hi rfl rfl d0 d7 p0 p7

theorem Sim.readyOp (h : Sim S R) (t : Int) : (S.readyOp t).1 = (R.readyOp t).1 ∧ Sim (S.readyOp t).2 (R.readyOp t).2 := by
  unfold PS.readyOp RS.readyOp
  cases hf : R.find t with
  | none => rw [h.noent hf]; exact ⟨rfl, h⟩
  | some i =>
    obtain ⟨hi, h1, h2⟩ := h.ent hf
    rw [h2]
    simp only [lookD _ hi]
    subst h1
    by_cases hc : 0 < R.L[i].came
    · rw [if_pos hc, if_pos (by simpa using hc)]; exact ⟨rfl, h⟩
    · rw [if_neg hc, if_neg (by simpa using hc)]; exact ⟨rfl, h.last hi rfl rfl⟩

theorem Sim.yield (h : Sim S R) (t : Int) : (S.yield t).1 = (R.yield t).1 ∧ Sim (S.yield t).2 (R.yield t).2 := by
  unfold PS.yield RS.yield
  cases hf : R.find t with
  | none => rw [h.noent hf]; exact ⟨rfl, h⟩
  | some i =>
    obtain ⟨hi, h1, h2⟩ := h.ent hf
    rw [h2]
    simp only [lookD _ hi]
    subst h1
    have := (h.wf.bd _ (List.getElem_mem hi)).2.2.2.2.2.1
    by_cases hc : R.L[i].came = 0
    · rw [if_pos hc, if_neg (by simp; omega)]; exact ⟨rfl, h⟩
    · rw [if_neg hc, if_pos (by simp; omega)]; exact ⟨rfl, h.last hi rfl rfl⟩

theorem Sim.block (h : Sim S R) (t : Int) : (S.block t).1 = (R.block t).1 ∧ Sim (S.block t).2 (R.block t).2 := by
  unfold PS.block RS.block
  cases hf : R.find t with
  | none => rw [h.noent hf]; exact ⟨rfl, h⟩
  | some i =>
    obtain ⟨hi, h1, h2⟩ := h.ent hf
    rw [h2]
    simp only [lookD _ hi]
    subst h1
    have hb := h.wf.bd _ (List.getElem_mem hi)
    have hcl := h.wf.clock
    by_cases hc : R.L[i].came = 0
    · rw [if_pos hc, if_neg (by simp; omega)]; exact ⟨rfl, h⟩
    · rw [if_neg hc, if_pos (by simp; omega)]
      refine ⟨rfl, h.turns, h.turn, h.left, h.wf.modify hi (f := fun e => { e with came := 0, left := 0 }) (fun _ => rfl) (Int.le_refl _) ⟨by simp; omega, by simp; omega, by simp; omega, by simp; omega, by simp, by simp; omega⟩ (.inl rfl), fun u => ?_, fun d p d0 d7 p0 p7 => ?_⟩
      · show up S.all _ _ u = _
        simp only
        rw [find?_modify h.wf.nodup hi (by intro _; rfl)]
        by_cases e : u = R.L[i].num
        · rw [if_pos e, e, up_same]; simp
        · rw [if_neg e, up_other _ _ _ _ e, h.all]
      · obtain ⟨es, hq, hs⟩ := h.q d p d0 d7 p0 p7
        refine ⟨_, hq.leaves h.wf.nodup hi (by simp), ?_⟩
        rw [map_filter_num, ← hs]
        exact h.leave_q (en := ⟨R.L[i].dom, R.L[i].prio, R.L[i].left, decide (0 < R.L[i].came)⟩) hi rfl rfl d0 d7 p0 p7

theorem Sim.prio (h : Sim S R) (t p : Int) : (S.prio t p).1 = (R.prio t p).1 ∧ Sim (S.prio t p).2 (R.prio t p).2 := by
  unfold PS.prio RS.prio
  cases hf : R.find t with
  | none => rw [h.noent hf]; exact ⟨rfl, h⟩
  | some i =>
    obtain ⟨hi, h1, h2⟩ := h.ent hf
    rw [h2]
    subst h1
    by_cases hp : p < 0 ∨ 8 ≤ p
    · have hp' : p < 0 ∨ 7 < p := by omega
      simp only; rw [if_pos hp, if_pos hp']; exact ⟨rfl, h⟩
    · have hp' : ¬ (p < 0 ∨ 7 < p) := by omega
      simp only; rw [if_neg hp, if_neg hp']
      have hb := h.wf.bd _ (List.getElem_mem hi)
      have hcl := h.wf.clock
      have hi' : i < (R.L.modify i fun e => { e with prio := p }).length := by simpa using hi
      have hgi : (R.L.modify i fun e => { e with prio := p })[i] = { R.L[i] with prio := p } := by simp
      -- the common part: where it is not ready it stands in no queue
      by_cases hc : 0 < R.L[i].came
      · rw [lookD _ hi', hgi]
        rw [if_pos (by simpa using hc), if_pos (by simpa using hc)]
        refine ⟨rfl, h.turns, h.turn, h.left, ?_, fun u => ?_, fun d p' d0 d7 p0 p7 => ?_⟩
        · have := h.wf.modify hi (f := fun e => { e with prio := p, came := R.clock + 1, left := 5 }) (fun _ => rfl) (c := R.clock + 1) (by omega) ⟨by simp; omega, by simp; omega, by simp; omega, by simp; omega, by simp; omega, by simp⟩ (.inr (.inr (by simp; omega)))
          unfold RS.lastAt
          simpa [List.modify_modify_eq, Function.comp_def] using this
        · unfold PS.last RS.lastAt
          simp only [List.modify_modify_eq]
          rw [find?_modify h.wf.nodup hi (by intro _; rfl)]
          by_cases e : u = R.L[i].num
          · rw [if_pos e, e, up_same]; simp; omega
          · rw [if_neg e, up_other _ _ _ _ e, up_other _ _ _ _ e, h.all]
        · obtain ⟨es, hq, hs⟩ := h.q d p' d0 d7 p0 p7
          have hlq := h.leave_q (en := ⟨R.L[i].dom, R.L[i].prio, R.L[i].left, decide (0 < R.L[i].came)⟩) hi rfl rfl d0 d7 p0 p7
          unfold PS.last RS.lastAt
          simp only [List.modify_modify_eq]
          have hww : without R.L[i].num (without R.L[i].num (S.q (8 * d + p'))) = without R.L[i].num (S.q (8 * d + p')) := by unfold without; simp
          by_cases e : R.L[i].dom = d ∧ p = p'
          · refine ⟨_, hq.comes h.wf.nodup hi ⟨e.1, e.2, by simp; omega⟩ (fun x hx => ?_), ?_⟩
            · have := (h.wf.bd x hx).2.2.2.2.2.2
              simp; omega
            · have e2 : 8 * d + p' = Ent.at ⟨R.L[i].dom, p, R.L[i].left, decide (0 < R.L[i].came)⟩ := by unfold Ent.at; simp; omega
              rw [e2, up_same, ← e2, hlq, hww, hs, List.map_append, map_filter_num]
              simp
          · refine ⟨_, hq.leaves h.wf.nodup hi (fun h' => e ⟨h'.1, h'.2.1⟩), ?_⟩
            have e2 : 8 * d + p' ≠ Ent.at ⟨R.L[i].dom, p, R.L[i].left, decide (0 < R.L[i].came)⟩ := by unfold Ent.at; simp; omega
            rw [up_other _ _ _ _ e2, hlq, hs, map_filter_num]
      · rw [lookD _ hi', hgi]
        rw [if_neg (by simpa using hc), if_neg (by simpa using hc)]
        refine ⟨rfl, h.turns, h.turn, h.left, h.wf.modify hi (f := fun e => { e with prio := p }) (fun _ => rfl) (Int.le_refl _) ⟨by simp; omega, by simp; omega, by simp; omega, by simp; omega, by simp; omega, by simp; omega⟩ (.inr (.inl rfl)), fun u => ?_, fun d p' d0 d7 p0 p7 => ?_⟩
        · show up S.all _ _ u = _
          simp only
          rw [find?_modify h.wf.nodup hi (by intro _; rfl)]
          by_cases e : u = R.L[i].num
          · rw [if_pos e, e, up_same]; simp
          · rw [if_neg e, up_other _ _ _ _ e, h.all]
        · obtain ⟨es, hq, hs⟩ := h.q d p' d0 d7 p0 p7
          refine ⟨_, hq.leaves h.wf.nodup hi (fun h' => hc h'.2.2), ?_⟩
          rw [map_filter_num, ← hs]
          exact h.leave_q (en := ⟨R.L[i].dom, R.L[i].prio, R.L[i].left, decide (0 < R.L[i].came)⟩) hi rfl rfl d0 d7 p0 p7

theorem Sim.look (h : Sim S R) (t : Int) : S.look t = R.look t := by
  unfold PS.look RS.look
  cases hf : R.find t with
  | none => rw [h.noent hf]
  | some i =>
    obtain ⟨hi, h1, h2⟩ := h.ent hf
    rw [h2]; simp only [lookD _ hi]
end
end Vk.Sched

namespace Vk.Sched
section
variable {S : PS} {R : RS}

theorem getD_mem {l : List (Int × Int)} {n : Nat} (h : n < l.length) : l.getD n (0, 0) ∈ l := by
  rw [List.getD_eq_getElem?_getD, List.getElem?_eq_getElem h]; exact List.getElem_mem h

theorem Sim.tick (h : Sim S R) : Sim S.tick R.tick := by
  have ht := h.turn
  have hl := h.left
  have hts := h.turns
  obtain ⟨w1, w2, w3⟩ := h.wf.turns
  obtain ⟨w4, w5⟩ := h.wf.turn
  obtain ⟨w6, w7⟩ := h.wf.left
  unfold PS.tick RS.tick
  rw [hl, ht, hts]
  by_cases e : R.left = 0
  · rw [if_pos e, if_pos e]
    have hm1 : 0 ≤ (R.turn + 1) % R.turns.length := Int.emod_nonneg _ (by omega)
    have hm2 : (R.turn + 1) % R.turns.length < R.turns.length := Int.emod_lt_of_pos _ (by omega)
    have := w3 _ (getD_mem (n := ((R.turn + 1) % R.turns.length).toNat) (by omega))
    exact ⟨rfl, rfl, rfl, ⟨h.wf.nodup, h.wf.bd, h.wf.came, h.wf.clock, h.wf.turns, ⟨hm1, hm2⟩, by simp only; omega⟩, h.all, h.q⟩
  · rw [if_neg e, if_neg e]
    exact ⟨rfl, rfl, rfl, ⟨h.wf.nodup, h.wf.bd, h.wf.came, h.wf.clock, h.wf.turns, h.wf.turn, by simp only; omega⟩, h.all, h.q⟩

theorem Sim.dom (h : Sim S R) : S.dom = R.dom ∧ 0 ≤ R.dom ∧ R.dom ≤ 7 := by
  obtain ⟨w4, w5⟩ := h.wf.turn
  have := h.wf.turns.2.2 _ (getD_mem (n := R.turn.toNat) (by omega))
  unfold PS.dom RS.dom
  rw [h.turn, h.turns]
  exact ⟨rfl, this.1, this.2.1⟩

/-- What 'first' has found among the first k. -/
theorem firstTo_spec (L : List RE) (d : Int) : ∀ k, k ≤ L.length →
    match firstTo L d k with
    | none => ∀ j (hj : j < L.length), j < k → ¬ (L[j].dom = d ∧ L[j].came ≠ 0)
    | some b => ∃ hb : b < L.length, b < k ∧ L[b].dom = d ∧ L[b].came ≠ 0 ∧ ∀ j (hj : j < L.length), j < k → L[j].dom = d → L[j].came ≠ 0 → L[j].prio < L[b].prio ∨ (L[j].prio = L[b].prio ∧ L[b].came ≤ L[j].came)
  | 0, _ => by simp [firstTo]
  | k + 1, hk => by
    have ih := firstTo_spec L d k (by omega)
    have hk' : k < L.length := by omega
    simp only [firstTo]
    unfold better
    rw [lookD L hk']
    simp only
    by_cases e : L[k].dom ≠ d ∨ L[k].came = 0
    · rw [if_pos e]
      split
      · rename_i hn
        rw [hn] at ih
        simp only at ih
        intro j hj hjk h'
        by_cases e2 : j = k
        · subst e2; rcases e with e | e
          · exact e h'.1
          · exact h'.2 e
        · exact ih j hj (by omega) h'
      · rename_i b hb
        rw [hb] at ih
        simp only at ih
        obtain ⟨h1, h2, h3, h4, h5⟩ := ih
        refine ⟨h1, by omega, h3, h4, fun j hj hjk hd hc => ?_⟩
        by_cases e2 : j = k
        · subst e2; rcases e with e | e
          · exact absurd hd e
          · exact absurd e hc
        · exact h5 j hj (by omega) hd hc
    · rw [if_neg e]
      have e3 : L[k].dom = d ∧ L[k].came ≠ 0 := by
        constructor
        · exact Classical.byContradiction fun h' => e (.inl h')
        · exact fun h' => e (.inr h')
      cases hf : firstTo L d k with
      | none =>
        rw [hf] at ih
        simp only at ih ⊢
        refine ⟨hk', by omega, e3.1, e3.2, fun j hj hjk hd hc => ?_⟩
        by_cases e2 : j = k
        · subst e2; right; exact ⟨rfl, Int.le_refl _⟩
        · exact absurd ⟨hd, hc⟩ (ih j hj (by omega))
      | some b =>
        rw [hf] at ih
        simp only at ih ⊢
        obtain ⟨h1, h2, h3, h4, h5⟩ := ih
        rw [lookD L h1]
        by_cases e4 : L[b].prio < L[k].prio ∨ (L[k].prio = L[b].prio ∧ L[k].came < L[b].came)
        · rw [if_pos e4]
          simp only
          refine ⟨hk', by omega, e3.1, e3.2, fun j hj hjk hd hc => ?_⟩
          by_cases e2 : j = k
          · subst e2; right; exact ⟨rfl, Int.le_refl _⟩
          · have := h5 j hj (by omega) hd hc
            omega
        · rw [if_neg e4]
          simp only
          refine ⟨h1, by omega, h3, h4, fun j hj hjk hd hc => ?_⟩
          by_cases e2 : j = k
          · subst e2; omega
          · exact h5 j hj (by omega) hd hc

theorem top_none {S : PS} {d : Int} : ∀ {k : Nat}, (∀ p : Nat, p < k → S.q (8 * d + p) = []) → S.top d k = none
  | 0, _ => rfl
  | k + 1, h => by
    unfold PS.top
    rw [h k (by omega)]
    exact top_none fun p hp => h p (by omega)

theorem top_some {S : PS} {d : Int} {p : Nat} {t : Int} {l : List Int} (hq : S.q (8 * d + p) = t :: l) : ∀ {k : Nat}, p < k → (∀ p' : Nat, p < p' → p' < k → S.q (8 * d + p') = []) → S.top d k = some ((p : Int), t)
  | 0, h, _ => by omega
  | k + 1, h, hn => by
    unfold PS.top
    by_cases e : p = k
    · subst e; rw [hq]
    · rw [hn k (by omega) (by omega)]
      exact top_some hq (by omega) fun p' h1 h2 => hn p' h1 (by omega)

/-- The program's first one is the document's. -/
theorem Sim.first (h : Sim S R) {d : Int} (d0 : 0 ≤ d) (d7 : d ≤ 7) :
    match R.first d with
    | none => S.top d 8 = none
    | some i => ∃ hi : i < R.L.length, ∃ l, R.L[i].dom = d ∧ 0 < R.L[i].came ∧ S.q (8 * d + R.L[i].prio) = R.L[i].num :: l ∧ S.top d 8 = some (R.L[i].prio, R.L[i].num) ∧
      ∀ p, R.L[i].prio < p → p ≤ 7 → S.q (8 * d + p) = [] := by
  have hf := firstTo_spec R.L d R.L.length (Nat.le_refl _)
  unfold RS.first
  split
  · rename_i hn
    rw [hn] at hf
    simp only at hf
    refine top_none fun p hp => ?_
    obtain ⟨es, hq, hs⟩ := h.q d p d0 d7 (by omega) (by omega)
    rw [hs]
    cases es with
    | nil => rfl
    | cons x es =>
      exfalso
      obtain ⟨h1, h2, h3, h4⟩ := (hq.2 x).1 (by simp)
      obtain ⟨j, hj, rfl⟩ := List.getElem_of_mem h1
      exact hf j hj hj ⟨h2, by omega⟩
  · rename_i b hb
    rw [hb] at hf
    simp only at hf
    obtain ⟨h1, _, h3, h4, h5⟩ := hf
    have hbd := h.wf.bd _ (List.getElem_mem h1)
    have hempty : ∀ p, R.L[b].prio < p → p ≤ 7 → S.q (8 * d + p) = [] := by
      intro p hp hp7
      obtain ⟨es, hq, hs⟩ := h.q d p d0 d7 (by omega) hp7
      rw [hs]
      cases es with
      | nil => rfl
      | cons x es =>
        exfalso
        obtain ⟨g1, g2, g3, g4⟩ := (hq.2 x).1 (by simp)
        obtain ⟨j, hj, rfl⟩ := List.getElem_of_mem g1
        have := h5 j hj hj g2 (by omega)
        omega
    obtain ⟨es, hq, hs⟩ := h.q d R.L[b].prio d0 d7 (by omega) (by omega)
    have hmem : R.L[b] ∈ es := (hq.2 _).2 ⟨List.getElem_mem _, h3, rfl, by omega⟩
    cases es with
    | nil => simp at hmem
    | cons x es =>
      have hx : x = R.L[b] := by
        rcases List.mem_cons.1 hmem with e | e
        · exact e.symm
        · have hlt := List.rel_of_pairwise_cons hq.1 e
          obtain ⟨g1, g2, g3, g4⟩ := (hq.2 x).1 (by simp)
          obtain ⟨j, hj, rfl⟩ := List.getElem_of_mem g1
          have := h5 j hj hj g2 (by omega)
          omega
      subst hx
      have hqq : S.q (8 * d + R.L[b].prio) = R.L[b].num :: es.map (·.num) := by rw [hs]; rfl
      refine ⟨h1, es.map (·.num), h3, by omega, hqq, ?_, hempty⟩
      have e1 : ((R.L[b].prio.toNat : Nat) : Int) = R.L[b].prio := by omega
      have := top_some (S := S) (d := d) (p := R.L[b].prio.toNat) (t := R.L[b].num) (l := es.map (·.num)) (by rw [e1]; exact hqq) (k := 8) (by omega) (fun p' hp1 hp2 => hempty p' (by omega) (by omega))
      rw [this, e1]

/-- One tick is taken off a slice. -/
theorem Sim.less (h : Sim S R) {i : Nat} (hi : i < R.L.length) (x : Int) :
    Sim { S with all := up S.all R.L[i].num (some ⟨R.L[i].dom, R.L[i].prio, x, decide (0 < R.L[i].came)⟩) } { R with L := R.L.modify i fun e => { e with left := x } } := by
  have hb := h.wf.bd _ (List.getElem_mem hi)
  refine ⟨h.turns, h.turn, h.left, h.wf.modify hi (f := fun e => { e with left := x }) (fun _ => rfl) (Int.le_refl _) ⟨by simp; omega, by simp; omega, by simp; omega, by simp; omega, by simp; omega, by simp; omega⟩ (.inr (.inl rfl)), fun u => ?_, fun d p d0 d7 p0 p7 => ?_⟩
  · simp only
    rw [find?_modify h.wf.nodup hi (by intro _; rfl)]
    by_cases e : u = R.L[i].num
    · rw [if_pos e, e, up_same]; simp
    · rw [if_neg e, up_other _ _ _ _ e, h.all]
  · obtain ⟨es, hq, hs⟩ := h.q d p d0 d7 p0 p7
    refine ⟨_, hq.stays h.wf.nodup hi (f := fun e => { e with left := x }) rfl rfl rfl rfl, ?_⟩
    rw [map_num_stays (f := fun e => { e with left := x }) hi rfl]
    exact hs

theorem modify_eq_at (L : List RE) {i : Nat} (hi : i < L.length) (f g : RE → RE) (h : f L[i] = g L[i]) : L.modify i f = L.modify i g := by
  apply List.ext_getElem
  · simp
  · intro j h1 h2
    simp only [List.getElem_modify]
    split
    · rename_i e; subst e; exact h
    · rfl

theorem Sim.next (h0 : Sim S R) : S.next.1 = R.next.1 ∧ Sim S.next.2 R.next.2 := by
  have h := h0.tick
  unfold PS.next RS.next
  generalize S.tick = S at h ⊢
  generalize R.tick = R at h ⊢
  obtain ⟨hd, d0, d7⟩ := h.dom
  simp only
  rw [hd]
  have hf := h.first d0 d7
  cases hr : R.first R.dom with
  | none =>
    rw [hr] at hf
    simp only at hf ⊢
    rw [hf]
    exact ⟨rfl, h⟩
  | some i =>
    rw [hr] at hf
    simp only at hf ⊢
    obtain ⟨hi, l, f1, f2, f3, f4, f5⟩ := hf
    have hb := h.wf.bd _ (List.getElem_mem hi)
    rw [f4]
    simp only
    have hall : S.all R.L[i].num = some ⟨R.L[i].dom, R.L[i].prio, R.L[i].left, decide (0 < R.L[i].came)⟩ := by
      rw [h.all, find?_num h.wf.nodup hi]; rfl
    rw [hall]
    simp only [lookD _ hi]
    by_cases e : R.L[i].left = 0
    · rw [if_pos e, if_pos e]
      have h1 := h.last hi (en := ⟨R.L[i].dom, R.L[i].prio, R.L[i].left, decide (0 < R.L[i].came)⟩) rfl rfl
      have hq1 := fun p p0 p7 => h.last_q (d := R.dom) (p := p) hi (en := ⟨R.L[i].dom, R.L[i].prio, R.L[i].left, decide (0 < R.L[i].came)⟩) rfl rfl d0 d7 p0 p7
      generalize hS1 : S.last R.L[i].num ⟨R.L[i].dom, R.L[i].prio, R.L[i].left, decide (0 < R.L[i].came)⟩ = S1 at h1 hq1 ⊢
      generalize hR1 : R.lastAt i = R1 at h1 ⊢
      have hf1 := h1.first d0 d7
      have hempty : ∀ p, R.L[i].prio < p → p ≤ 7 → S1.q (8 * R.dom + p) = [] := by
        intro p hp hp7
        rw [hq1 p (by omega) hp7, f5 p hp hp7, if_neg (by omega)]; rfl
      have hne : S1.q (8 * R.dom + R.L[i].prio) ≠ [] := by
        rw [hq1 _ (by omega) (by omega), if_pos ⟨f1, rfl⟩]; simp
      cases hr1 : R1.first R.dom with
      | none =>
        exfalso
        rw [hr1] at hf1
        simp only at hf1
        obtain ⟨t, l', hl'⟩ : ∃ t l', S1.q (8 * R.dom + R.L[i].prio) = t :: l' := by
          cases hh : S1.q (8 * R.dom + R.L[i].prio) with
          | nil => exact absurd hh hne
          | cons t l' => exact ⟨t, l', rfl⟩
        have e1 : ((R.L[i].prio.toNat : Nat) : Int) = R.L[i].prio := by omega
        have := top_some (S := S1) (d := R.dom) (p := R.L[i].prio.toNat) (t := t) (l := l') (by rw [e1]; exact hl') (k := 8) (by omega) (fun p' hp1 hp2 => hempty p' (by omega) (by omega))
        rw [hf1] at this; simp at this
      | some i1 =>
        rw [hr1] at hf1
        simp only at hf1 ⊢
        obtain ⟨hi1, l1, g1, g2, g3, g4, g5⟩ := hf1
        have hp : R1.L[i1].prio = R.L[i].prio := by
          have hb1 := h1.wf.bd _ (List.getElem_mem hi1)
          rcases Int.lt_trichotomy R1.L[i1].prio R.L[i].prio with hlt | heq | hgt
          · exact absurd (g5 _ hlt (by omega)) hne
          · exact heq
          · have := hempty _ hgt (by omega); rw [g3] at this; simp at this
        rw [← hp, g3]
        simp only [List.headD_cons]
        have hall1 : S1.all R1.L[i1].num = some ⟨R1.L[i1].dom, R1.L[i1].prio, R1.L[i1].left, decide (0 < R1.L[i1].came)⟩ := by
          rw [h1.all, find?_num h1.wf.nodup hi1]; rfl
        rw [hall1]
        simp only [lookD _ hi1]
        refine ⟨trivial, ?_⟩
        have := h1.less hi1 (dec R1.L[i1].left)
        rw [modify_eq_at R1.L hi1 (fun e => { e with left := dec R1.L[i1].left }) (fun e => { e with left := dec e.left }) (by simp)] at this
        exact this
    · rw [if_neg e, if_neg e, f3]
      simp only [List.headD_cons]
      rw [hall]
      simp only [lookD _ hi]
      refine ⟨trivial, ?_⟩
      have := h.less hi (dec R.L[i].left)
      rw [modify_eq_at R.L hi (fun e => { e with left := dec R.L[i].left }) (fun e => { e with left := dec e.left }) (by simp)] at this
      exact this

/-! ### Queue -/
theorem ins_mem (x : RE) : ∀ (l : List RE) (e : RE), e ∈ ins x l ↔ e = x ∨ e ∈ l
  | [], e => by simp [ins]
  | y :: l, e => by
    unfold ins
    split
    · simp
    · simp only [List.mem_cons, ins_mem x l]
      constructor
      · rintro (h | h | h)
        · exact .inr (.inl h)
        · exact .inl h
        · exact .inr (.inr h)
      · rintro (h | h | h)
        · exact .inr (.inl h)
        · exact .inl h
        · exact .inr (.inr h)

theorem ins_sorted (x : RE) : ∀ (l : List RE), l.Pairwise (fun a b => a.came < b.came) → (∀ y ∈ l, y.came ≠ x.came) → (ins x l).Pairwise (fun a b => a.came < b.came)
  | [], _, _ => by simp [ins]
  | y :: l, h, hne => by
    unfold ins
    split
    · rename_i hlt
      rw [List.pairwise_cons]
      refine ⟨fun a ha => ?_, h⟩
      rcases List.mem_cons.1 ha with rfl | ha
      · exact hlt
      · have := List.rel_of_pairwise_cons h ha; omega
    · rename_i hge
      rw [List.pairwise_cons]
      refine ⟨fun a ha => ?_, ins_sorted x l (List.Pairwise.of_cons h) fun z hz => hne z (List.mem_cons_of_mem _ hz)⟩
      have := hne y (by simp)
      rcases (ins_mem x l a).1 ha with rfl | ha
      · omega
      · exact List.rel_of_pairwise_cons h ha

theorem sortTo_spec (hw : Wf R) (d p : Int) : ∀ k, k ≤ R.L.length → (sortTo R.L d p k).Pairwise (fun a b => a.came < b.came) ∧
    ∀ e, e ∈ sortTo R.L d p k ↔ ∃ j, ∃ hj : j < R.L.length, j < k ∧ e = R.L[j] ∧ e.dom = d ∧ e.prio = p ∧ 0 < e.came
  | 0, _ => by simp [sortTo]
  | k + 1, hk => by
    have hk' : k < R.L.length := by omega
    obtain ⟨i1, i2⟩ := sortTo_spec hw d p k (by omega)
    have hb := hw.bd _ (List.getElem_mem hk')
    simp only [sortTo]
    rw [lookD _ hk']
    by_cases e : R.L[k].dom ≠ d ∨ R.L[k].prio ≠ p ∨ R.L[k].came = 0
    · rw [if_pos e]
      refine ⟨i1, fun x => (i2 x).trans ⟨?_, ?_⟩⟩
      · rintro ⟨j, hj, h1, h2⟩; exact ⟨j, hj, by omega, h2⟩
      · rintro ⟨j, hj, h1, h2, h3⟩
        refine ⟨j, hj, ?_, h2, h3⟩
        by_cases e2 : j = k
        · subst e2; subst h2; omega
        · omega
    · rw [if_neg e]
      have e3 : R.L[k].dom = d ∧ R.L[k].prio = p ∧ R.L[k].came ≠ 0 := by omega
      refine ⟨ins_sorted _ _ i1 fun y hy => ?_, fun x => ?_⟩
      · obtain ⟨j, hj, h1, rfl, h2, h3, h4⟩ := (i2 y).1 hy
        intro heq
        have := hw.came _ (List.getElem_mem hj) _ (List.getElem_mem hk') h4 heq
        have hn := hw.nodup
        have hjk : (R.L.map (·.num))[j]'(by simp; omega) = (R.L.map (·.num))[k]'(by simp; omega) := by simp [this]
        have := (List.getElem_inj hn).1 hjk
        omega
      · rw [ins_mem, i2]
        constructor
        · rintro (rfl | ⟨j, hj, h1, h2⟩)
          · exact ⟨k, hk', by omega, rfl, e3.1, e3.2.1, by omega⟩
          · exact ⟨j, hj, by omega, h2⟩
        · rintro ⟨j, hj, h1, h2, h3⟩
          by_cases e2 : j = k
          · subst e2; exact .inl h2
          · exact .inr ⟨j, hj, by omega, h2, h3⟩

theorem Sim.queue (h : Sim S R) (d p : Int) : S.queue d p = R.queue d p := by
  unfold PS.queue RS.queue
  by_cases e : d < 0 ∨ 8 ≤ d ∨ p < 0 ∨ 8 ≤ p
  · rw [if_pos e, if_pos (by omega)]
  · rw [if_neg e, if_neg (by omega)]
    obtain ⟨es, hq, hs⟩ := h.q d p (by omega) (by omega) (by omega) (by omega)
    rw [hs]
    obtain ⟨s1, s2⟩ := sortTo_spec h.wf d p R.L.length (Nat.le_refl _)
    have : IsQ R.L d p (sortTo R.L d p R.L.length) := by
      refine ⟨s1, fun e => (s2 e).trans ⟨?_, ?_⟩⟩
      · rintro ⟨j, hj, _, rfl, h3⟩; exact ⟨List.getElem_mem _, h3⟩
      · rintro ⟨h1, h3⟩
        obtain ⟨j, hj, rfl⟩ := List.getElem_of_mem h1
        exact ⟨j, hj, hj, rfl, h3⟩
    rw [hq.unique this]
end

theorem Sim.start (ts : List (Int × Int)) (h1 : 1 ≤ ts.length) (h2 : ts.length ≤ 16) (h3 : ∀ x ∈ ts, 0 ≤ x.1 ∧ x.1 ≤ 7 ∧ 1 ≤ x.2 ∧ x.2 ≤ 1000) :
    Sim ⟨ts, 0, (ts.getD 0 (0, 0)).2, fun _ => none, fun _ => []⟩ ⟨ts, 0, (ts.getD 0 (0, 0)).2, [], 0⟩ := by
  have := h3 _ (getD_mem (n := 0) (by omega))
  refine ⟨rfl, rfl, rfl, ⟨by simp, by simp, by simp, Int.le_refl _, ⟨h1, h2, h3⟩, ⟨Int.le_refl _, by simp only; omega⟩, by simp only; omega⟩, fun t => rfl, fun d p _ _ _ _ => ⟨[], ⟨by simp, by simp⟩, rfl⟩⟩
end Vk.Sched

