/-
  The document's scheduler in memory, and contracts of its calls. No condition.
-/
import Derived.Test.YtaniphdbebdhhaaSc5
import Derived.Test.YtaniphdbebdhhaaVkRec
namespace Go.Proofs.Ytaniphdbebdhhaa
open Go.Vk Vk.Sched

inductive RTag where | head | turns | ents
deriving DecidableEq

def reCells (e : RE) : List Value := [.int .i64 e.num, .int .i64 e.dom, .int .i64 e.prio, .int .i64 e.left, .int .i64 e.came]
theorem re_len (e : RE) : (reCells e).length = 5 := rfl
/-- The cells of a row of entities. -/
def recs (L : List RE) (rest : List Value) : Array Value := (L.flatMap reCells ++ rest).toArray
def refCells (tv lv : Value) (R : RS) : Array Value := #[tv, .int .i64 R.turn, .int .i64 R.left, lv, .int .i64 R.clock]

/-- The document's scheduler in memory. -/
structure RefAt (own : Nat → Option RTag) (w : World) (x : Nat) (R : RS) (tv lv : Value) : Prop where
  head : w.heap[x]? = some (.cells (refCells tv lv R) 102 (0, 0))
  turns : w.ownsRow 0 36 2 tv R.turns.length (turnCells R.turns)
  ents : w.ownsRow 0 168 5 lv R.L.length (R.L.flatMap reCells)
  o_head : own x = some .head
  o_turns : ∀ b, tv.ownBlock = some b → own b = some .turns
  o_ents : ∀ b, lv.ownBlock = some b → own b = some .ents
  lt : ∀ b, own b ≠ none → b < w.heap.size

def RefIn (own : Nat → Option RTag) (w : World) (x : Nat) (R : RS) : Prop := ∃ tv lv, RefAt own w x R tv lv

def findI (R : RS) (t : Int) : Int := match R.find t with | none => -1 | some i => i

section
variable {own : Nat → Option RTag} {w w' : World} {x : Nat} {R : RS} {tv lv : Value}

theorem RefAt.frame (h : RefAt own w x R tv lv) (hu : ∀ b, own b ≠ none → w'.heap[b]? = w.heap[b]?) (hs : w.heap.size ≤ w'.heap.size) : RefAt own w' x R tv lv := by
  have hh : ∀ b T, own b = some T → w'.heap[b]? = w.heap[b]? := fun b T hb => hu b (by rw [hb]; simp)
  exact ⟨(hh x _ h.o_head).trans h.head, row_keep h.turns fun g hg => hh g _ (h.o_turns g hg), row_keep h.ents fun g hg => hh g _ (h.o_ents g hg), h.o_head, h.o_turns, h.o_ents, fun b hb => Nat.lt_of_lt_of_le (h.lt b hb) hs⟩

/-- The head says something else: turn, left, clock. -/
theorem RefAt.setHead (h : RefAt own w x R tv lv) {R' : RS} (e1 : R'.turns = R.turns) (e2 : R'.L = R.L) (hx : w'.heap[x]? = some (.cells (refCells tv lv R') 102 (0, 0)))
    (hold : ∀ b, own b ≠ none → b ≠ x → w'.heap[b]? = w.heap[b]?) (hs : w.heap.size ≤ w'.heap.size) : RefAt own w' x R' tv lv := by
  have hh : ∀ b T, own b = some T → T ≠ .head → w'.heap[b]? = w.heap[b]? := fun b T hb h1 =>
    hold b (by rw [hb]; simp) (fun e2 => by subst e2; rw [h.o_head] at hb; simp at hb; exact h1 hb.symm)
  exact ⟨hx, by rw [e1]; exact row_keep h.turns fun g hg => hh g _ (h.o_turns g hg) (by simp), by rw [e2]; exact row_keep h.ents fun g hg => hh g _ (h.o_ents g hg) (by simp), h.o_head, h.o_turns, h.o_ents, fun b hb => Nat.lt_of_lt_of_le (h.lt b hb) hs⟩

/-- The entities' row, opened at an entity. -/
theorem RefAt.open (h : RefAt own w x R tv lv) {i : Nat} (hi : i < R.L.length) : ∃ g cap rest, lv = .slice (some ⟨g, 0, none⟩) R.L.length cap ∧ w.heap[g]? = some (.cells (recs R.L rest) 168 (0, 0)) ∧
    g ≠ x ∧ own g = some .ents ∧ R.L.length ≤ cap ∧ cap ≤ maxLen ∧ (R.L.flatMap reCells ++ rest).length = cap * 5 := by
  rcases row_open h.ents with ⟨_, h0, _⟩ | ⟨g, cap, rest, rfl, hg, hn, hm, hs, hl⟩
  · omega
  · have hgo := h.o_ents g rfl
    exact ⟨g, cap, rest, rfl, hg, fun e => by rw [e, h.o_head] at hgo; simp at hgo, hgo, hn, hm, hs⟩

theorem re_get (L : List RE) (rest : List Value) {i : Nat} (hi : i < L.length) :
    (recs L rest)[i * 5]? = some (.int .i64 L[i].num) ∧ (recs L rest)[i * 5 + 1]? = some (.int .i64 L[i].dom) ∧ (recs L rest)[i * 5 + 2]? = some (.int .i64 L[i].prio) ∧
    (recs L rest)[i * 5 + 3]? = some (.int .i64 L[i].left) ∧ (recs L rest)[i * 5 + 4]? = some (.int .i64 L[i].came) :=
  ⟨flat_geta re_len L rest i 0 hi (by omega), flat_geta re_len L rest i 1 hi (by omega), flat_geta re_len L rest i 2 hi (by omega), flat_geta re_len L rest i 3 hi (by omega), flat_geta re_len L rest i 4 hi (by omega)⟩
theorem re_lt (L : List RE) (rest : List Value) {i j : Nat} (hi : i < L.length) (hj : j < 5) : i * 5 + j < (recs L rest).size := by
  unfold recs
  simp only [List.size_toArray, List.length_append, flat_len re_len]
  omega
theorem re_set (L : List RE) (rest : List Value) {i : Nat} (hi : i < L.length) (x : Int) :
    (recs L rest).setIfInBounds (i * 5 + 2) (.int .i64 x) = recs (L.modify i fun e => { e with prio := x }) rest ∧
    (recs L rest).setIfInBounds (i * 5 + 3) (.int .i64 x) = recs (L.modify i fun e => { e with left := x }) rest ∧
    (recs L rest).setIfInBounds (i * 5 + 4) (.int .i64 x) = recs (L.modify i fun e => { e with came := x }) rest :=
  ⟨flat_seta re_len _ _ L rest i 2 hi (by omega) rfl, flat_seta re_len _ _ L rest i 3 hi (by omega) rfl, flat_seta re_len _ _ L rest i 4 hi (by omega) rfl⟩

/-- Entities change, their number does not. -/
theorem RefAt.setEnts (h : RefAt own w x R tv lv) {R' : RS} {g cap : Nat} {rest : List Value} (hlv : lv = .slice (some ⟨g, 0, none⟩) R.L.length cap) (hg : w.heap[g]? = some (.cells (recs R.L rest) 168 (0, 0)))
    (e1 : R'.turns = R.turns) (e2 : R'.turn = R.turn) (e3 : R'.left = R.left) (e4 : R'.clock = R.clock) (e5 : R'.L.length = R.L.length)
    (hg' : w'.heap[g]? = some (.cells (recs R'.L rest) 168 (0, 0))) (hold : ∀ b, own b ≠ none → b ≠ g → w'.heap[b]? = w.heap[b]?) (hs : w.heap.size ≤ w'.heap.size) : RefAt own w' x R' tv lv := by
  subst hlv
  have hgo := h.o_ents g rfl
  have hh : ∀ b T, own b = some T → T ≠ .ents → w'.heap[b]? = w.heap[b]? := fun b T hb h1 =>
    hold b (by rw [hb]; simp) (fun e2 => by subst e2; rw [hgo] at hb; simp at hb; exact h1 hb.symm)
  refine ⟨?_, by rw [e1]; exact row_keep h.turns fun g hg => hh g _ (h.o_turns g hg) (by simp), ?_, h.o_head, h.o_turns, h.o_ents, fun b hb => Nat.lt_of_lt_of_le (h.lt b hb) hs⟩
  · rw [hh x _ h.o_head (by simp), h.head]
    unfold refCells
    rw [e2, e3, e4]
  · rcases row_open h.ents with ⟨h0, _, _⟩ | ⟨g2, cap2, rest2, h0, hg2, hn, hm, hsz, hl⟩
    · simp at h0
    · simp only [Value.slice.injEq, Option.some.injEq, Addr.mk.injEq] at h0
      obtain ⟨⟨rfl, _⟩, _, rfl⟩ := h0
      rw [hg] at hg2
      simp [recs] at hg2
      subst hg2
      have hlen : (R'.L.flatMap reCells).length = R.L.length * 5 := by rw [flat_len re_len, e5]
      rw [e5]
      refine row_shut hg' hn hm ?_ hlen
      rw [List.length_append, hlen, ← hl, ← List.length_append]
      exact hsz

set_option maxRecDepth 100000 in
theorem find_calls (h : RefAt own w x R tv lv) (hbig : R.L.length < 1000000000) (t : Int) :
    Calls Try.prog 96 #[.pointer (some ⟨x, 0, none⟩), .int .i64 t] w fun en w' => en = .returned (.int .i64 (findI R t)) ∧ w' = w := by
  apply vk96
  unfold vc96
  obtain ⟨a0, c0, hv0⟩ := row_slice h.ents
  refine loopK1 (fun m v w' => w' = w ∧ ∃ i : Nat, i ≤ R.L.length ∧ v = .int .i64 i ∧ m = R.L.length - i ∧ ∀ j : Nat, ∀ hj : j < R.L.length, j < i → R.L[j].num ≠ t) R.L.length ⟨rfl, 0, by omega, rfl, by omega, fun j _ h => by omega⟩ ?_
  rintro m v w' ⟨rfl, i, hi, rfl, rfl, hno⟩
  have hhead := h.head
  unfold refCells at hhead
  by_cases hlt : i < R.L.length
  · obtain ⟨g, cap, rest, rfl, hg, hgx, _⟩ := h.open hlt
    have hc := (re_get R.L rest hlt).1
    have hw : IntKind.i64.wrap ((i : Int) + 1) = ((i + 1 : Nat) : Int) := by rw [wrap_i64 (by omega) (by omega)]; rfl
    simp [hhead, hlt, hg, hc, hw]
    by_cases e : R.L[i].num = t
    · simp [e]
      unfold findI
      have : R.find t = some i := by
        unfold RS.find
        rw [List.findIdx?_eq_some_iff_getElem]
        exact ⟨hlt, by simpa using e, fun j hj => by simpa using hno j (by omega) hj⟩
      rw [this]
    · simp [e]
      refine ⟨_, ?_, i + 1, by omega, rfl, rfl, fun j hj hji => ?_⟩
      · omega
      · by_cases e2 : j = i
        · subst e2; exact e
        · exact hno j hj (by omega)
  · simp [hhead, hlt, hv0]
    unfold findI
    have : R.find t = none := by
      unfold RS.find
      rw [List.findIdx?_eq_none_iff]
      intro e he
      obtain ⟨j, hj, rfl⟩ := List.getElem_of_mem he
      simpa using hno j hj (by omega)
    rw [this]

/-- What a call of the document's leaves. -/
def RefNext (own : Nat → Option RTag) (w w' : World) (x : Nat) (R' : RS) : Prop :=
  ∃ own', RefIn own' w' x R' ∧ (∀ b, own' b ≠ none → own b ≠ none ∨ w.heap.size ≤ b) ∧ Upd (fun b => own b ≠ none) w w'

theorem RefNext.same (h : RefAt own w x R tv lv) : RefNext own w w x R := ⟨own, ⟨_, _, h⟩, fun _ hb => .inl hb, Upd.refl _ _⟩

theorem findI_none {t : Int} (h : R.find t = none) : findI R t = -1 := by unfold findI; rw [h]
theorem findI_some {t : Int} {i : Nat} (h : R.find t = some i) : findI R t = i := by unfold findI; rw [h]
theorem find_lt {t : Int} {i : Nat} (h : R.find t = some i) : i < R.L.length := (find_some h).1
theorem LgetD {i : Nat} (h : i < R.L.length) : R.L.getD i ⟨0, 0, 0, 0, 0⟩ = R.L[i] := by rw [List.getD_eq_getElem?_getD, List.getElem?_eq_getElem h]; rfl

theorem modify_modify {α : Type} (L : List α) (i : Nat) (f g : α → α) : (L.modify i f).modify i g = L.modify i (fun e => g (f e)) := by
  apply List.ext_getElem?
  intro j
  simp only [List.getElem?_modify]
  by_cases e : i = j <;> simp [e]
  cases L[j]? <;> rfl

set_option maxRecDepth 100000 in
theorem rlast_calls (h : RefAt own w x R tv lv) {i : Nat} (hi : i < R.L.length) (hc : 0 ≤ R.clock ∧ R.clock < 1000000000) :
    Calls Try.prog 97 #[.pointer (some ⟨x, 0, none⟩), .int .i64 i] w fun en w' => en = .returned (.tuple #[]) ∧ RefAt own w' x (R.lastAt i) tv lv ∧ Upd (fun b => own b ≠ none) w w' := by
  apply vk97
  obtain ⟨g, cap, rest, rfl, hg, hgx, hgo, _⟩ := h.open hi
  have hhead := h.head
  have hw : IntKind.i64.wrap (R.clock + 1) = R.clock + 1 := wrap_i64 (by omega) (by omega)
  unfold refCells at hhead
  have hgg : ∀ (w : World) (o : Obj), (putB w x o).heap[g]? = w.heap[g]? := fun w o => putB_other hgx o
  have hxg : ∀ (w : World) (o : Obj), (putB w g o).heap[x]? = w.heap[x]? := fun w o => putB_other hgx.symm o
  have hxl := blk_lt hhead
  have hgl := blk_lt hg
  have hps : ∀ (w' : World) (o : Obj), w'.heap.size = w.heap.size → (putB w' g o).heap[g]? = some o := fun w' o h => putB_same (by rw [h]; exact hgl) o
  simp [vc97, hhead, hi, hw, putB_same hxl, hgg, hxg, hg, (re_set R.L rest hi _).2.2, (re_set _ rest _ _).2.1, hps, re_lt _ rest hi, putB_putB]
  have h1 := h.setHead (R' := { R with clock := R.clock + 1 }) (w' := (putB w x (.cells (refCells tv (.slice (some ⟨g, 0, none⟩) R.L.length cap) { R with clock := R.clock + 1 }) 102 (0, 0))).drew) rfl rfl (putB_same hxl _)
    (fun b hb hbx => by show (putB _ _ _).heap[b]? = _; rw [putB_other hbx]) (by simp)
  have hL : (R.lastAt i).L = ((R.L.modify i fun e => { e with came := R.clock + 1 }).modify i fun e => { e with left := 5 }) := by
    rw [modify_modify]; rfl
  refine ⟨re_lt _ _ (by simpa using hi) (by omega), ?_, ?_⟩
  · refine h1.setEnts (R' := R.lastAt i) rfl ((hgg _ _).trans hg) rfl rfl rfl rfl (by rw [hL]; simp) ?_ (fun b hb hbg => ?_) (by simp)
    · rw [hL]; exact hps _ _ (by simp)
    · exact putB_other hbg _
  · refine Upd.putB (Upd.drew (Upd.putB (Upd.refl _ w) (.inr ?_) _)) (.inr ?_) _
    · rw [h.o_head]; simp
    · rw [hgo]; simp

section
variable (hc : 0 ≤ R.clock ∧ R.clock < 1000000000) (hbig : R.L.length < 1000000000)
include hc hbig

set_option maxRecDepth 100000 in
theorem RReady_calls (h : RefAt own w x R tv lv) (t : Int) :
    Calls Try.prog 37 #[.pointer (some ⟨x, 0, none⟩), .int .i64 t] w fun en w' => en = .returned (.int .i64 (R.readyOp t).1) ∧ RefNext own w w' x (R.readyOp t).2 := by
  apply vk37
  unfold vc37
  refine callK_of (find_calls h hbig t) ?_
  rintro r w2 ⟨rfl, rfl⟩
  refine ⟨_, rfl, ?_⟩
  unfold RS.readyOp
  cases he : R.find t with
  | none =>
    simp [findI_none he]
    exact .same h
  | some i =>
    have hi := find_lt he
    obtain ⟨g, cap, rest, rfl, hg, hgx, hgo, _⟩ := h.open hi
    have hhead := h.head
    unfold refCells at hhead
    have h0 : ¬ (i : Int) < 0 := by omega
    simp [findI_some he, hhead, hi, hg, (re_get R.L rest hi).2.2.2.2, h0]
    by_cases e : 0 < R.L[i].came
    · simp [e]
      exact .same h
    · simp [e]
      refine callK_of (rlast_calls h hi hc) ?_
      rintro r w2 ⟨rfl, h1, h2⟩
      exact ⟨_, rfl, own, ⟨_, _, h1⟩, fun _ hb => .inl hb, h2⟩

set_option maxRecDepth 100000 in
theorem RYield_calls (h : RefAt own w x R tv lv) (t : Int) :
    Calls Try.prog 41 #[.pointer (some ⟨x, 0, none⟩), .int .i64 t] w fun en w' => en = .returned (.int .i64 (R.yield t).1) ∧ RefNext own w w' x (R.yield t).2 := by
  apply vk41
  unfold vc41
  refine callK_of (find_calls h hbig t) ?_
  rintro r w2 ⟨rfl, rfl⟩
  refine ⟨_, rfl, ?_⟩
  unfold RS.yield
  cases he : R.find t with
  | none =>
    simp [findI_none he]
    exact .same h
  | some i =>
    have hi := find_lt he
    obtain ⟨g, cap, rest, rfl, hg, hgx, hgo, _⟩ := h.open hi
    have hhead := h.head
    unfold refCells at hhead
    have h0 : ¬ (i : Int) < 0 := by omega
    simp [findI_some he, hhead, hi, hg, (re_get R.L rest hi).2.2.2.2, h0]
    by_cases e : R.L[i].came = 0
    · simp [e]
      exact .same h
    · simp [e]
      refine callK_of (rlast_calls h hi hc) ?_
      rintro r w2 ⟨rfl, h1, h2⟩
      exact ⟨_, rfl, own, ⟨_, _, h1⟩, fun _ hb => .inl hb, h2⟩

omit hc in
set_option maxRecDepth 100000 in
theorem RLook_calls (h : RefAt own w x R tv lv) (t : Int) :
    Calls Try.prog 53 #[.pointer (some ⟨x, 0, none⟩), .int .i64 t] w fun en w' => en = .returned (.tuple #[.int .i64 (R.look t).1, .int .i64 (R.look t).2.1, .int .i64 (R.look t).2.2.1, .int .i64 (R.look t).2.2.2]) ∧ (w' = w ∨ w' = w.drew) := by
  apply vk53
  unfold vc53
  refine callK_of (find_calls h hbig t) ?_
  rintro r w2 ⟨rfl, rfl⟩
  refine ⟨_, rfl, ?_⟩
  unfold RS.look
  cases he : R.find t with
  | none => simp [findI_none he]
  | some i =>
    have hi := find_lt he
    obtain ⟨g, cap, rest, rfl, hg, hgx, hgo, _⟩ := h.open hi
    have hhead := h.head
    unfold refCells at hhead
    have h0 : ¬ (i : Int) < 0 := by omega
    simp [findI_some he, hhead, hi, hg, (re_get R.L rest hi).2.1, (re_get R.L rest hi).2.2.1, (re_get R.L rest hi).2.2.2.1, h0]

omit hc hbig in
theorem RTurn_calls (h : RefAt own w x R tv lv) :
    Calls Try.prog 47 #[.pointer (some ⟨x, 0, none⟩)] w fun en w' => en = .returned (.tuple #[.int .i64 R.turn, .int .i64 R.left]) ∧ w' = w.drew := by
  have hhead := h.head
  unfold refCells at hhead
  apply vk47
  simp [vc47, hhead]

omit hc in
set_option maxRecDepth 100000 in
theorem RBlock_calls (h : RefAt own w x R tv lv) (t : Int) :
    Calls Try.prog 39 #[.pointer (some ⟨x, 0, none⟩), .int .i64 t] w fun en w' => en = .returned (.int .i64 (R.block t).1) ∧ RefNext own w w' x (R.block t).2 := by
  apply vk39
  unfold vc39
  refine callK_of (find_calls h hbig t) ?_
  rintro r w2 ⟨rfl, rfl⟩
  refine ⟨_, rfl, ?_⟩
  unfold RS.block
  cases he : R.find t with
  | none =>
    simp [findI_none he]
    exact .same h
  | some i =>
    have hi := find_lt he
    obtain ⟨g, cap, rest, rfl, hg, hgx, hgo, _⟩ := h.open hi
    have hhead := h.head
    unfold refCells at hhead
    have h0 : ¬ (i : Int) < 0 := by omega
    simp [findI_some he, hhead, hi, hg, (re_get R.L rest hi).2.2.2.2, h0]
    by_cases e : R.L[i].came = 0
    · simp [e]
      exact .same h
    · have hgl := blk_lt hg
      have hxg : ∀ (w : World) (o : Obj), (putB w g o).heap[x]? = w.heap[x]? := fun w o => putB_other hgx.symm o
      simp [e, re_lt _ rest hi, (re_set R.L rest hi _).2.2, (re_set _ rest _ _).2.1, hxg, putB_same hgl, putB_putB, hhead, hi]
      refine ⟨re_lt _ _ (by simpa using hi) (by omega), own, ⟨_, _, h.setEnts (g := g) (cap := cap) (rest := rest) rfl hg rfl rfl rfl rfl (by simp) ?_ (fun b hb hbg => by rw [putB_other hbg]) (by simp)⟩, fun _ hb => .inl hb, Upd.putB (Upd.refl _ _) (.inr (by rw [hgo]; simp)) _⟩
      rw [modify_modify]
      exact putB_same hgl _

set_option maxRecDepth 100000 in
theorem RPrio_calls (h : RefAt own w x R tv lv) (t p : Int) :
    Calls Try.prog 43 #[.pointer (some ⟨x, 0, none⟩), .int .i64 t, .int .i64 p] w fun en w' => en = .returned (.int .i64 (R.prio t p).1) ∧ RefNext own w w' x (R.prio t p).2 := by
  apply vk43
  unfold vc43
  refine callK_of (find_calls h hbig t) ?_
  rintro r w2 ⟨rfl, rfl⟩
  refine ⟨_, rfl, ?_⟩
  unfold RS.prio
  cases he : R.find t with
  | none =>
    simp [findI_none he]
    exact .same h
  | some i =>
    have hi := find_lt he
    obtain ⟨g, cap, rest, rfl, hg, hgx, hgo, _⟩ := h.open hi
    have hhead := h.head
    unfold refCells at hhead
    have h0 : ¬ (i : Int) < 0 := by omega
    cases hpd : decide (p < 0 ∨ 7 < p) with
    | true =>
      have hp := of_decide_eq_true hpd
      simp only [hp, if_true]
      simp [findI_some he, h0, hp]
      exact .same h
    | false =>
      have hp := of_decide_eq_false hpd
      have hgl := blk_lt hg
      have hxg : ∀ (w : World) (o : Obj), (putB w g o).heap[x]? = w.heap[x]? := fun w o => putB_other hgx.symm o
      have hi' : i < (R.L.modify i fun e => { e with prio := p }).length := by simpa using hi
      have hcame : (R.L.modify i fun e => { e with prio := p })[i].came = R.L[i].came := by simp
      have hm := (re_get (R.L.modify i fun e => { e with prio := p }) rest hi').2.2.2.2
      rw [hcame] at hm
      have h1 : RefAt own (putB w2 g (.cells (recs (R.L.modify i fun e => { e with prio := p }) rest) 168 (0, 0))) x { R with L := R.L.modify i fun e => { e with prio := p } } tv (.slice (some ⟨g, 0, none⟩) R.L.length cap) :=
        h.setEnts (g := g) (cap := cap) (rest := rest) rfl hg rfl rfl rfl rfl (by simp) (putB_same hgl _) (fun b hb hbg => by rw [putB_other hbg]) (by simp)
      have hu1 : Upd (fun b => own b ≠ none) w2 (putB w2 g (.cells (recs (R.L.modify i fun e => { e with prio := p }) rest) 168 (0, 0))) := Upd.putB (Upd.refl _ _) (.inr (by rw [hgo]; simp)) _
      simp only [hp, if_false]
      simp [findI_some he, h0, hp, hhead, hi, hg, re_lt _ rest hi, (re_set R.L rest hi _).1, hxg, putB_same hgl, hm]
      by_cases e : 0 < R.L[i].came
      · simp [e]
        refine callK_of (rlast_calls h1 hi' hc) ?_
        rintro r w3 ⟨rfl, h2, h3⟩
        exact ⟨_, rfl, own, ⟨_, _, h2⟩, fun _ hb => .inl hb, hu1.trans h3 fun _ _ hb => hb⟩
      · simp [e]
        exact ⟨own, ⟨_, _, h1⟩, fun _ hb => .inl hb, hu1⟩
end
end
end Go.Proofs.Ytaniphdbebdhhaa
