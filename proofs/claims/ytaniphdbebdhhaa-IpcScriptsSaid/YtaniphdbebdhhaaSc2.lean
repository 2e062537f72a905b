/-
  A scheduler in memory: where its parts lie, and what changes of one part leave. No condition.
-/
import Derived.Test.YtaniphdbebdhhaaSc1
import Derived.Test.YtaniphdbebdhhaaSl
namespace Go.Proofs.Ytaniphdbebdhhaa
open Go.Vk Vk.Sched

/-- What a block is to a scheduler. -/
inductive Tag where
  | head | map | turns
  | line (i : Nat)
  | ent (t : Int)
deriving DecidableEq

def schedCells (tv : Value) (turn left : Int) (m : Nat) (lv : Nat → Value) : Array Value :=
  ([tv, .int .i64 turn, .int .i64 left, .map (some m)] ++ (List.range 64).map lv).toArray

@[simp] theorem sc_size (tv : Value) (turn left : Int) (m : Nat) (lv : Nat → Value) : (schedCells tv turn left m lv).size = 68 := by simp [schedCells]
@[simp] theorem sc_0 (tv : Value) (turn left : Int) (m : Nat) (lv : Nat → Value) : (schedCells tv turn left m lv)[0]? = some tv := by simp [schedCells]
@[simp] theorem sc_1 (tv : Value) (turn left : Int) (m : Nat) (lv : Nat → Value) : (schedCells tv turn left m lv)[1]? = some (.int .i64 turn) := by simp [schedCells]
@[simp] theorem sc_2 (tv : Value) (turn left : Int) (m : Nat) (lv : Nat → Value) : (schedCells tv turn left m lv)[2]? = some (.int .i64 left) := by simp [schedCells]
@[simp] theorem sc_3 (tv : Value) (turn left : Int) (m : Nat) (lv : Nat → Value) : (schedCells tv turn left m lv)[3]? = some (.map (some m)) := by simp [schedCells]
theorem sc_line (tv : Value) (turn left : Int) (m : Nat) (lv : Nat → Value) {i : Nat} (h : i < 64) : (schedCells tv turn left m lv)[4 + i]? = some (lv i) := by
  have : 4 + i = i + 1 + 1 + 1 + 1 := by omega
  rw [this]
  simp [schedCells, h]
theorem sc_set1 (tv : Value) (turn left : Int) (m : Nat) (lv : Nat → Value) (x : Int) : (schedCells tv turn left m lv).setIfInBounds 1 (.int .i64 x) = schedCells tv x left m lv := by simp [schedCells]
theorem sc_set2 (tv : Value) (turn left : Int) (m : Nat) (lv : Nat → Value) (x : Int) : (schedCells tv turn left m lv).setIfInBounds 2 (.int .i64 x) = schedCells tv turn x m lv := by simp [schedCells]
theorem sc_setline (tv : Value) (turn left : Int) (m : Nat) (lv : Nat → Value) {i : Nat} (h : i < 64) (v : Value) :
    (schedCells tv turn left m lv).setIfInBounds (4 + i) v = schedCells tv turn left m (fun j => if j = i then v else lv j) := by
  apply Array.ext_getElem?
  intro k
  rw [Array.getElem?_setIfInBounds]
  by_cases hk : k < 68
  · by_cases h4 : k < 4
    · rw [if_neg (by omega)]
      match k, h4 with
      | 0, _ => rw [sc_0, sc_0]
      | 1, _ => rw [sc_1, sc_1]
      | 2, _ => rw [sc_2, sc_2]
      | 3, _ => rw [sc_3, sc_3]
    · obtain ⟨j, rfl⟩ : ∃ j, k = 4 + j := ⟨k - 4, by omega⟩
      rw [sc_line _ _ _ _ _ (by omega), sc_line _ _ _ _ _ (by omega)]
      by_cases e : i = j
      · subst e; simp; omega
      · rw [if_neg (by omega), if_neg (fun h => e h.symm)]
  · rw [if_neg (by omega), Array.getElem?_eq_none (by rw [sc_size]; omega), Array.getElem?_eq_none (by rw [sc_size]; omega)]

def entryO (e : Ent) : Obj := .cells #[.int .i64 e.dom, .int .i64 e.prio, .int .i64 e.left, .bool e.ready] 105 (0, 0)
def turnCells (ts : List (Int × Int)) : List Value := ts.flatMap fun p => [.int .i64 p.1, .int .i64 p.2]

/-- A scheduler in memory, its ghosts open: where the turns' row, the map, the lines' rows and the entries lie. -/
structure SchedAt (own : Nat → Option Tag) (w : World) (x : Nat) (S : PS) (tv : Value) (m : Nat) (lv : Nat → Value) (l : List Ent3) (c : Nat) (eb : Int → Nat) : Prop where
  head : w.heap[x]? = some (.cells (schedCells tv S.turn S.left m lv) 99 (0, 0))
  turns : w.ownsRow 0 36 2 tv S.turns.length (turnCells S.turns)
  map : w.heap[m]? = some (.map (ents l) c)
  nodup : (mkeys l).Nodup
  keys : ∀ t, mget l t = (S.all t).map fun _ => .pointer (some ⟨eb t, 0, none⟩)
  ent : ∀ t e, S.all t = some e → w.heap[eb t]? = some (entryO e)
  lines : ∀ i : Nat, i < 64 → w.ownsRow 0 3 1 (lv i) (S.q i).length (nums (S.q i))
  bd : ∀ t e, S.all t = some e → 0 ≤ e.dom ∧ e.dom < 8 ∧ 0 ≤ e.prio ∧ e.prio < 8
  o_head : own x = some .head
  o_map : own m = some .map
  o_turns : ∀ b, tv.ownBlock = some b → own b = some .turns
  o_line : ∀ i : Nat, i < 64 → ∀ b, (lv i).ownBlock = some b → own b = some (.line i)
  o_ent : ∀ t e, S.all t = some e → own (eb t) = some (.ent t)
  lt : ∀ b, own b ≠ none → b < w.heap.size

/-- A scheduler in memory. -/
def SchedIn (own : Nat → Option Tag) (w : World) (x : Nat) (S : PS) : Prop := ∃ tv m lv l c eb, SchedAt own w x S tv m lv l c eb

section
variable {own own' : Nat → Option Tag} {w w' : World} {x : Nat} {S : PS} {tv : Value} {m : Nat} {lv : Nat → Value} {l : List Ent3} {c : Nat} {eb : Int → Nat}

/-- What is not of it may change. -/
theorem SchedAt.frame (h : SchedAt own w x S tv m lv l c eb) (hu : ∀ b, own b ≠ none → w'.heap[b]? = w.heap[b]?) (hs : w.heap.size ≤ w'.heap.size) : SchedAt own w' x S tv m lv l c eb := by
  have hh : ∀ b T, own b = some T → w'.heap[b]? = w.heap[b]? := fun b T hb => hu b (by rw [hb]; simp)
  exact ⟨(hh x _ h.o_head).trans h.head, row_keep h.turns fun g hg => hh g _ (h.o_turns g hg), (hh m _ h.o_map).trans h.map, h.nodup, h.keys,
    fun t e he => (hh _ _ (h.o_ent t e he)).trans (h.ent t e he), fun i hi => row_keep (h.lines i hi) fun g hg => hh g _ (h.o_line i hi g hg), h.bd, h.o_head, h.o_map, h.o_turns, h.o_line, h.o_ent,
    fun b hb => Nat.lt_of_lt_of_le (h.lt b hb) hs⟩

/-- A line is another one. -/
theorem SchedAt.line (h : SchedAt own w x S tv m lv l c eb) {i : Nat} (hi : i < 64) {v' : Value} {q' : List Int}
    (hx : w'.heap[x]? = some (.cells (schedCells tv S.turn S.left m fun j => if j = i then v' else lv j) 99 (0, 0))) (hrow : w'.ownsRow 0 3 1 v' q'.length (nums q'))
    (hold : ∀ b, own b ≠ none → b ≠ x → own b ≠ some (.line i) → w'.heap[b]? = w.heap[b]?)
    (hown : ∀ b, own b ≠ none → own' b = own b) (hv : ∀ b, v'.ownBlock = some b → own' b = some (.line i)) (hlt : ∀ b, own' b ≠ none → b < w'.heap.size) :
    SchedAt own' w' x { S with q := up S.q i q' } tv m (fun j => if j = i then v' else lv j) l c eb := by
  have hh : ∀ b T, own b = some T → T ≠ .head → T ≠ .line i → w'.heap[b]? = w.heap[b]? := fun b T hb h1 h2 =>
    hold b (by rw [hb]; simp) (fun e => by subst e; rw [h.o_head] at hb; simp at hb; exact h1 hb.symm) (by rw [hb]; simpa using h2)
  have ho : ∀ b T, own b = some T → own' b = some T := fun b T hb => by rw [hown b (by rw [hb]; simp)]; exact hb
  refine ⟨hx, row_keep h.turns fun g hg => hh g _ (h.o_turns g hg) (by simp) (by simp), (hh m _ h.o_map (by simp) (by simp)).trans h.map, h.nodup, h.keys,
    fun t e he => (hh _ _ (h.o_ent t e he) (by simp) (by simp)).trans (h.ent t e he), fun j hj => ?_, h.bd, ho _ _ h.o_head, ho _ _ h.o_map, fun b hb => ho _ _ (h.o_turns b hb), fun j hj b hb => ?_, fun t e he => ho _ _ (h.o_ent t e he), hlt⟩
  · by_cases e : j = i
    · subst e
      simp only [if_true, up_same]
      exact hrow
    · simp only [if_neg e]
      rw [up_other _ _ _ _ (by omega)]
      exact row_keep (h.lines j hj) fun g hg => hh g _ (h.o_line j hj g hg) (by simp) (by simpa using e)
  · by_cases e : j = i
    · subst e
      simp only [if_true] at hb
      exact hv b hb
    · simp only [if_neg e] at hb
      exact ho _ _ (h.o_line j hj b hb)

/-- An entry says something else. -/
theorem SchedAt.setEnt (h : SchedAt own w x S tv m lv l c eb) {t : Int} {e e' : Ent} (he : S.all t = some e) (hx : w'.heap[eb t]? = some (entryO e')) (hb : 0 ≤ e'.dom ∧ e'.dom < 8 ∧ 0 ≤ e'.prio ∧ e'.prio < 8)
    (hold : ∀ b, own b ≠ none → b ≠ eb t → w'.heap[b]? = w.heap[b]?) (hs : w.heap.size ≤ w'.heap.size) : SchedAt own w' x { S with all := up S.all t (some e') } tv m lv l c eb := by
  have hh : ∀ b T, own b = some T → T ≠ .ent t → w'.heap[b]? = w.heap[b]? := fun b T hb h1 =>
    hold b (by rw [hb]; simp) (fun e2 => by subst e2; rw [h.o_ent t e he] at hb; simp at hb; exact h1 hb.symm)
  refine ⟨(hh x _ h.o_head (by simp)).trans h.head, row_keep h.turns fun g hg => hh g _ (h.o_turns g hg) (by simp), (hh m _ h.o_map (by simp)).trans h.map, h.nodup, fun u => ?_,
    fun u f hf => ?_, fun i hi => row_keep (h.lines i hi) fun g hg => hh g _ (h.o_line i hi g hg) (by simp), fun u f hf => ?_, h.o_head, h.o_map, h.o_turns, h.o_line, fun u f hf => ?_,
    fun b hb => Nat.lt_of_lt_of_le (h.lt b hb) hs⟩
  · show mget l u = (up S.all t (some e') u).map _
    by_cases e2 : u = t
    · subst e2; rw [up_same, h.keys, he]; rfl
    · rw [up_other _ _ _ _ e2]; exact h.keys u
  all_goals
    by_cases e2 : u = t
    · subst e2
      have : f = e' := by simpa using hf.symm
      subst this
      first | exact hx | exact hb | exact h.o_ent u e he
    · have hf' : S.all u = some f := by rw [← hf]; exact (up_other _ _ _ _ e2).symm
      first | exact (hh _ _ (h.o_ent u f hf') (by simpa using e2)).trans (h.ent u f hf') | exact h.bd u f hf' | exact h.o_ent u f hf'

/-- Another turn, another rest of it. -/
theorem SchedAt.setHead (h : SchedAt own w x S tv m lv l c eb) {turn left : Int} (hx : w'.heap[x]? = some (.cells (schedCells tv turn left m lv) 99 (0, 0)))
    (hold : ∀ b, own b ≠ none → b ≠ x → w'.heap[b]? = w.heap[b]?) (hs : w.heap.size ≤ w'.heap.size) : SchedAt own w' x { S with turn, left } tv m lv l c eb := by
  have hh : ∀ b T, own b = some T → T ≠ .head → w'.heap[b]? = w.heap[b]? := fun b T hb h1 =>
    hold b (by rw [hb]; simp) (fun e2 => by subst e2; rw [h.o_head] at hb; simp at hb; exact h1 hb.symm)
  exact ⟨hx, row_keep h.turns fun g hg => hh g _ (h.o_turns g hg) (by simp), (hh m _ h.o_map (by simp)).trans h.map, h.nodup, h.keys,
    fun t e he => (hh _ _ (h.o_ent t e he) (by simp)).trans (h.ent t e he), fun i hi => row_keep (h.lines i hi) fun g hg => hh g _ (h.o_line i hi g hg) (by simp), h.bd, h.o_head, h.o_map, h.o_turns, h.o_line, h.o_ent,
    fun b hb => Nat.lt_of_lt_of_le (h.lt b hb) hs⟩

/-- One more thread, its entry in a new block. -/
theorem SchedAt.addEnt (h : SchedAt own w x S tv m lv l c eb) {t : Int} {e : Ent} {nb : Nat} (he : S.all t = none) (hx : w'.heap[nb]? = some (entryO e)) (hm : w'.heap[m]? = some (.map (ents (mput l c t (.pointer (some ⟨nb, 0, none⟩)))) (mclk l c t)))
    (hb : 0 ≤ e.dom ∧ e.dom < 8 ∧ 0 ≤ e.prio ∧ e.prio < 8) (hold : ∀ b, own b ≠ none → b ≠ m → w'.heap[b]? = w.heap[b]?) (hnb : own nb = none) (hs : w.heap.size ≤ w'.heap.size) :
    SchedAt (fun b => if b = nb then some (.ent t) else own b) w' x { S with all := up S.all t (some e) } tv m lv (mput l c t (.pointer (some ⟨nb, 0, none⟩))) (mclk l c t) (up eb t nb) := by
  have hh : ∀ b T, own b = some T → T ≠ .map → w'.heap[b]? = w.heap[b]? := fun b T hb h1 =>
    hold b (by rw [hb]; simp) (fun e2 => by subst e2; rw [h.o_map] at hb; simp at hb; exact h1 hb.symm)
  have ho : ∀ b T, own b = some T → (if b = nb then some (.ent t) else own b) = some T := fun b T hb => by
    rw [if_neg (fun e2 => by subst e2; rw [hnb] at hb; simp at hb)]; exact hb
  have hlt : nb < w'.heap.size := blk_lt hx
  refine ⟨(hh x _ h.o_head (by simp)).trans h.head, row_keep h.turns fun g hg => hh g _ (h.o_turns g hg) (by simp), hm, mput_nodup h.nodup _ _ _, fun u => ?_,
    fun u f hf => ?_, fun i hi => row_keep (h.lines i hi) fun g hg => hh g _ (h.o_line i hi g hg) (by simp), fun u f hf => ?_, ho _ _ h.o_head, ho _ _ h.o_map, fun b hb => ho _ _ (h.o_turns b hb), fun i hi b hb => ho _ _ (h.o_line i hi b hb), fun u f hf => ?_,
    fun b hb => ?_⟩
  · rw [mget_mput]
    show _ = (up S.all t (some e) u).map _
    by_cases e2 : u = t
    · subst e2; rw [if_pos rfl, up_same]; simp [up]
    · rw [if_neg e2, up_other _ _ _ _ e2, h.keys u]
      simp only [up, if_neg e2]
  · by_cases e2 : u = t
    · subst e2
      have : f = e := by simpa using hf.symm
      subst this
      simpa [up] using hx
    · have hf' : S.all u = some f := by rw [← hf]; exact (up_other _ _ _ _ e2).symm
      simp only [up, if_neg e2]
      exact (hh _ _ (h.o_ent u f hf') (by simp)).trans (h.ent u f hf')
  · by_cases e2 : u = t
    · subst e2
      have : f = e := by simpa using hf.symm
      subst this
      exact hb
    · have hf' : S.all u = some f := by rw [← hf]; exact (up_other _ _ _ _ e2).symm
      exact h.bd u f hf'
  · by_cases e2 : u = t
    · subst e2; simp [up]
    · have hf' : S.all u = some f := by rw [← hf]; exact (up_other _ _ _ _ e2).symm
      simp only [up, if_neg e2]
      exact ho _ _ (h.o_ent u f hf')
  · by_cases e2 : b = nb
    · subst e2; exact hlt
    · simp only [if_neg e2] at hb
      exact Nat.lt_of_lt_of_le (h.lt b hb) hs

/-- A thread is gone. -/
theorem SchedAt.delEnt (h : SchedAt own w x S tv m lv l c eb) {t : Int} (hm : w'.heap[m]? = some (.map (ents (mdel t l)) c)) (hold : ∀ b, own b ≠ none → b ≠ m → w'.heap[b]? = w.heap[b]?) (hs : w.heap.size ≤ w'.heap.size) :
    SchedAt own w' x { S with all := up S.all t none } tv m lv (mdel t l) c eb := by
  have hh : ∀ b T, own b = some T → T ≠ .map → w'.heap[b]? = w.heap[b]? := fun b T hb h1 =>
    hold b (by rw [hb]; simp) (fun e2 => by subst e2; rw [h.o_map] at hb; simp at hb; exact h1 hb.symm)
  have hf' : ∀ {u : Int} {f : Ent}, up S.all t none u = some f → S.all u = some f := fun {u f} hf => by
    by_cases e2 : u = t
    · subst e2; rw [up_same] at hf; cases hf
    · rw [up_other _ _ _ _ e2] at hf; exact hf
  refine ⟨(hh x _ h.o_head (by simp)).trans h.head, row_keep h.turns fun g hg => hh g _ (h.o_turns g hg) (by simp), hm, mdel_nodup h.nodup _, fun u => ?_,
    fun u f hf => (hh _ _ (h.o_ent u f (hf' hf)) (by simp)).trans (h.ent u f (hf' hf)), fun i hi => row_keep (h.lines i hi) fun g hg => hh g _ (h.o_line i hi g hg) (by simp), fun u f hf => h.bd u f (hf' hf), h.o_head, h.o_map, h.o_turns, h.o_line, fun u f hf => h.o_ent u f (hf' hf),
    fun b hb => Nat.lt_of_lt_of_le (h.lt b hb) hs⟩
  rw [mget_mdel h.nodup]
  show _ = (up S.all t none u).map _
  by_cases e2 : u = t
  · subst e2; rw [if_pos rfl, up_same]; rfl
  · rw [if_neg e2, up_other _ _ _ _ e2, h.keys u]
end
end Go.Proofs.Ytaniphdbebdhhaa
