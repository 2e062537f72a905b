/-
  The document's bus in memory, and contracts of its calls. No condition.
-/
import Derived.Test.YtaniphdbebdhhaaIp6
namespace Go.Proofs.Ytaniphdbebdhhaa.Ipc
open Go.Vk Vk.Ipc

inductive DTag where | head | ps | ws
deriving DecidableEq

def rwCells (x : RW) : List Value := [.int .i64 x.pl, .int .i64 x.th, .int .i64 x.how, .int .u32 x.m.a, .int .u32 x.m.b, .int .u32 x.m.c, .int .u32 x.m.d, .int .u32 x.m.e, .int .u32 x.m.f]
def rpCells (p : RP) : List Value := [.int .i64 p.num, .bool p.bell, .int .u32 p.word]
def rwV (x : RW) : Value := .agg (rwCells x).toArray
def rpV (x : RP) : Value := .agg (rpCells x).toArray
theorem rw_len (x : RW) : (rwCells x).length = 9 := rfl
theorem rp_len (x : RP) : (rpCells x).length = 3 := rfl
theorem rw_one (x : RW) : (rwCells x).all Value.oneCell' = true := rfl
theorem rp_one (x : RP) : (rpCells x).all Value.oneCell' = true := rfl
theorem ones_of {α : Type} {f : α → List Value} (h : ∀ x, (f x).all Value.oneCell' = true) (L : List α) : ∀ u ∈ L.flatMap f, u.oneCell' = true := fun u hu => by
  obtain ⟨e, _, he⟩ := List.mem_flatMap.1 hu
  exact (List.all_eq_true.1 (h e)) u he

theorem rw_info : ∃ i, Try.prog.info? 197 = some i ∧ i.zero = some (rwV dW) ∧ i.size = 9 ∧ i.bytes = 48 := by
  have h : (Try.prog.info? 197).map (fun i => (i.zero, i.size, i.bytes)) = some (some (rwV dW), 9, 48) := by kernel_rfl
  cases hi : Try.prog.info? 197 with
  | none => rw [hi] at h; cases h
  | some i => rw [hi] at h; simp at h; exact ⟨i, rfl, h.1, h.2.1, h.2.2⟩
theorem rp_info : ∃ i, Try.prog.info? 189 = some i ∧ i.zero = some (rpV dP) ∧ i.size = 3 ∧ i.bytes = 16 := by
  have h : (Try.prog.info? 189).map (fun i => (i.zero, i.size, i.bytes)) = some (some (rpV dP), 3, 16) := by kernel_rfl
  cases hi : Try.prog.info? 189 with
  | none => rw [hi] at h; cases h
  | some i => rw [hi] at h; simp at h; exact ⟨i, rfl, h.1, h.2.1, h.2.2⟩
theorem z197 : zero197.size = 9 := by kernel_rfl
theorem lies197 : lies Try.prog 197 = some (some 9) := by kernel_rfl

/-- The document's bus in memory. -/
structure DocAt (own : Nat → Option DTag) (w : World) (x : Nat) (R : RB) (pv wv : Value) : Prop where
  head : w.heap[x]? = some (.cells #[pv, wv] 59 (0, 0))
  ps : w.ownsRow 0 189 3 pv R.P.length (R.P.flatMap rpCells)
  ws : w.ownsRow 0 197 9 wv R.W.length (R.W.flatMap rwCells)
  o_head : own x = some .head
  o_ps : ∀ b, pv.ownBlock = some b → own b = some .ps
  o_ws : ∀ b, wv.ownBlock = some b → own b = some .ws
  lt : ∀ b, own b ≠ none → b < w.heap.size
def DocIn (own : Nat → Option DTag) (w : World) (x : Nat) (R : RB) : Prop := ∃ pv wv, DocAt own w x R pv wv
def DocNext (own : Nat → Option DTag) (w w' : World) (x : Nat) (R' : RB) : Prop :=
  ∃ own', DocIn own' w' x R' ∧ (∀ b, own' b ≠ none → own b ≠ none ∨ w.heap.size ≤ b) ∧ Upd (fun b => own b ≠ none) w w'

def idxI : Option Nat → Int
  | none => -1
  | some i => i

section
variable {own own' : Nat → Option DTag} {w w' w'' : World} {x : Nat} {R R' R'' : RB} {pv wv : Value}

theorem DocAt.frame (h : DocAt own w x R pv wv) (hu : ∀ b, own b ≠ none → w'.heap[b]? = w.heap[b]?) (hs : w.heap.size ≤ w'.heap.size) : DocAt own w' x R pv wv := by
  have hh : ∀ b T, own b = some T → w'.heap[b]? = w.heap[b]? := fun b T hb => hu b (by rw [hb]; simp)
  exact ⟨(hh x _ h.o_head).trans h.head, row_keep h.ps fun g hg => hh g _ (h.o_ps g hg), row_keep h.ws fun g hg => hh g _ (h.o_ws g hg), h.o_head, h.o_ps, h.o_ws, fun b hb => Nat.lt_of_lt_of_le (h.lt b hb) hs⟩
theorem DocIn.frame (h : DocIn own w x R) (hu : ∀ b, own b ≠ none → w'.heap[b]? = w.heap[b]?) (hs : w.heap.size ≤ w'.heap.size) : DocIn own w' x R := by
  obtain ⟨pv, wv, h⟩ := h
  exact ⟨pv, wv, h.frame hu hs⟩
theorem DocIn.lt (h : DocIn own w x R) {b : Nat} (hb : own b ≠ none) : b < w.heap.size := by
  obtain ⟨pv, wv, h⟩ := h
  exact h.lt b hb
theorem DocAt.upd (h : DocAt own w x R pv wv) (hu : Upd (fun _ => False) w w') : DocAt own w' x R pv wv := h.frame (fun b hb => hu.old b (h.lt b hb) fun f => f) hu.size
theorem DocAt.next (h : DocAt own w x R pv wv) : DocNext own w w x R := ⟨own, ⟨_, _, h⟩, fun _ hb => .inl hb, Upd.refl _ _⟩
theorem DocNext.upd (h : DocNext own w w' x R) (hu : Upd (fun _ => False) w' w'') : DocNext own w w'' x R := by
  obtain ⟨own', h1, h2, h3⟩ := h
  exact ⟨own', h1.frame (fun b hb => hu.old b (h1.lt hb) fun f => f) hu.size, h2, h3.trans hu fun _ _ f => f.elim⟩
theorem DocNext.trans (h : DocNext own w w' x R') (k : ∀ own', DocIn own' w' x R' → DocNext own' w' w'' x R'') : DocNext own w w'' x R'' := by
  obtain ⟨own1, h1, h2, h3⟩ := h
  obtain ⟨own2, k1, k2, k3⟩ := k own1 h1
  refine ⟨own2, k1, fun b hb => ?_, h3.trans k3 fun b hb hc => ?_⟩
  · rcases k2 b hb with e | e
    · exact h2 b e
    · exact .inr (Nat.le_trans h3.size e)
  · rcases h2 b hc with e | e
    · exact e
    · omega
theorem DocNext.before (hu : Upd (fun _ => False) w w') (h : DocNext own w' w'' x R) : DocNext own w w'' x R := by
  obtain ⟨own', h1, h2, h3⟩ := h
  refine ⟨own', h1, fun b hb => (h2 b hb).imp id fun e => Nat.le_trans hu.size e, (hu.mono fun _ f => f.elim).trans h3 fun _ _ h => h⟩
theorem DocAt.in {b : Nat} {T : DTag} (h : DocAt own w x R pv wv) (hb : own b = some T) : b < w.heap.size := h.lt b (by rw [hb]; simp)
theorem DocAt.new (h : DocAt own w x R pv wv) {b : Nat} (hb : w.heap.size ≤ b) : own b = none := by
  cases e : own b with
  | none => rfl
  | some T => have := h.in e; omega
theorem DocNext.keep {W W' : World} (hn : DocNext own W W' x R') {b : Nat} {o : Obj} (hb : W.heap[b]? = some o) (ho : own b = none) : W'.heap[b]? = some o := by
  obtain ⟨_, _, _, h3⟩ := hn
  exact (h3.old b (blk_lt hb) (by rw [ho]; simp)).trans hb
theorem DocAt.ne (_ : DocAt own w x R pv wv) {b c : Nat} {T U : DTag} (h1 : own b = some T) (h2 : own c = some U) (hn : T ≠ U) : b ≠ c := fun e => by
  subst e; rw [h1] at h2; exact hn (Option.some.inj h2)

/-- A row of places, opened. -/
theorem DocAt.openP (h : DocAt own w x R pv wv) {i : Nat} (hi : i < R.P.length) : ∃ g cap rest, pv = .slice (some ⟨g, 0, none⟩) R.P.length cap ∧ w.heap[g]? = some (.cells (R.P.flatMap rpCells ++ rest).toArray 189 (0, 0)) ∧
    g ≠ x ∧ own g = some .ps ∧ R.P.length ≤ cap ∧ cap ≤ maxLen ∧ (R.P.flatMap rpCells ++ rest).length = cap * 3 := by
  rcases row_open h.ps with ⟨_, h0, _⟩ | ⟨g, cap, rest, rfl, hg, hn, hm, hs, hl⟩
  · omega
  · have hgo := h.o_ps g rfl
    exact ⟨g, cap, rest, rfl, hg, fun e => by rw [e, h.o_head] at hgo; simp at hgo, hgo, hn, hm, hs⟩
theorem DocAt.openW (h : DocAt own w x R pv wv) {i : Nat} (hi : i < R.W.length) : ∃ g cap rest, wv = .slice (some ⟨g, 0, none⟩) R.W.length cap ∧ w.heap[g]? = some (.cells (R.W.flatMap rwCells ++ rest).toArray 197 (0, 0)) ∧
    g ≠ x ∧ own g = some .ws ∧ R.W.length ≤ cap ∧ cap ≤ maxLen ∧ (R.W.flatMap rwCells ++ rest).length = cap * 9 := by
  rcases row_open h.ws with ⟨_, h0, _⟩ | ⟨g, cap, rest, rfl, hg, hn, hm, hs, hl⟩
  · omega
  · have hgo := h.o_ws g rfl
    exact ⟨g, cap, rest, rfl, hg, fun e => by rw [e, h.o_head] at hgo; simp at hgo, hgo, hn, hm, hs⟩

theorem rp_get (L : List RP) (rest : List Value) {i : Nat} (hi : i < L.length) :
    (L.flatMap rpCells ++ rest).toArray[i * 3]? = some (.int .i64 L[i].num) ∧ (L.flatMap rpCells ++ rest).toArray[i * 3 + 1]? = some (.bool L[i].bell) ∧ (L.flatMap rpCells ++ rest).toArray[i * 3 + 2]? = some (.int .u32 L[i].word) :=
  ⟨flat_geta rp_len L rest i 0 hi (by omega), flat_geta rp_len L rest i 1 hi (by omega), flat_geta rp_len L rest i 2 hi (by omega)⟩
theorem rw_get (L : List RW) (rest : List Value) {i : Nat} (hi : i < L.length) :
    (L.flatMap rwCells ++ rest).toArray[i * 9]? = some (.int .i64 L[i].pl) ∧ (L.flatMap rwCells ++ rest).toArray[i * 9 + 1]? = some (.int .i64 L[i].th) ∧ (L.flatMap rwCells ++ rest).toArray[i * 9 + 2]? = some (.int .i64 L[i].how) :=
  ⟨flat_geta rw_len L rest i 0 hi (by omega), flat_geta rw_len L rest i 1 hi (by omega), flat_geta rw_len L rest i 2 hi (by omega)⟩

theorem findI_none' {α : Type} {p : α → Bool} {L : List α} (h : ∀ j, ∀ hj : j < L.length, p L[j] = false) : L.findIdx? p = none := by
  rw [List.findIdx?_eq_none_iff]
  intro e he
  obtain ⟨j, hj, rfl⟩ := List.getElem_of_mem he
  exact h j hj
theorem findI_some' {α : Type} {p : α → Bool} {L : List α} {i : Nat} (hi : i < L.length) (hp : p L[i] = true) (h : ∀ j, ∀ hj : j < L.length, j < i → p L[j] = false) : L.findIdx? p = some i := by
  rw [List.findIdx?_eq_some_iff_getElem]
  exact ⟨hi, hp, fun j hj => by rw [h j (by omega) hj]; simp⟩
theorem findI_lt' {α : Type} {p : α → Bool} {L : List α} {i : Nat} (h : L.findIdx? p = some i) : i < L.length := by
  rw [List.findIdx?_eq_some_iff_getElem] at h
  exact h.1

set_option maxRecDepth 100000 in
theorem place103 (h : DocAt own w x R pv wv) (hbig : R.P.length < 1000000000) (t : Int) :
    Calls Try.prog 103 #[.pointer (some ⟨x, 0, none⟩), .int .i64 t] w fun en w' => en = .returned (.int .i64 (idxI (R.place t))) ∧ w' = w := by
  apply vk103
  unfold vc103
  obtain ⟨a0, c0, hv0⟩ := row_slice h.ps
  refine loopK1 (fun m v w' => w' = w ∧ ∃ i : Nat, i ≤ R.P.length ∧ v = .int .i64 i ∧ m = R.P.length - i ∧ ∀ j : Nat, ∀ hj : j < R.P.length, j < i → R.P[j].num ≠ t) R.P.length ⟨rfl, 0, by omega, rfl, by omega, fun j _ h => by omega⟩ ?_
  rintro m v w' ⟨rfl, i, hi, rfl, rfl, hno⟩
  have hhead := h.head
  by_cases hlt : i < R.P.length
  · obtain ⟨g, cap, rest, rfl, hg, hgx, _⟩ := h.openP hlt
    have hc := (rp_get R.P rest hlt).1
    have hw : IntKind.i64.wrap ((i : Int) + 1) = ((i + 1 : Nat) : Int) := by rw [wrap_i64 (by omega) (by omega)]; rfl
    generalize (R.P.flatMap rpCells ++ rest).toArray = cs at *
    simp [hhead, hlt, hg, hc, hw]
    by_cases e : R.P[i].num = t
    · simp [e]
      unfold RB.place
      rw [findI_some' hlt (by simpa using e) fun j hj hji => by simpa using hno j hj hji]
      rfl
    · simp [e]
      refine ⟨_, ?_, i + 1, by omega, rfl, rfl, fun j hj hji => ?_⟩
      · omega
      · by_cases e2 : j = i
        · subst e2; exact e
        · exact hno j hj (by omega)
  · simp [hhead, hlt, hv0]
    unfold RB.place
    rw [findI_none' fun j hj => by simpa using hno j hj (by omega)]
    rfl

set_option maxRecDepth 100000 in
theorem first110 (h : DocAt own w x R pv wv) (hbig : R.W.length < 1000000000) (t : Int) :
    Calls Try.prog 110 #[.pointer (some ⟨x, 0, none⟩), .int .i64 t] w fun en w' => en = .returned (.int .i64 (idxI (R.first t))) ∧ w' = w := by
  apply vk110
  unfold vc110
  obtain ⟨a0, c0, hv0⟩ := row_slice h.ws
  refine loopK1 (fun m v w' => w' = w ∧ ∃ i : Nat, i ≤ R.W.length ∧ v = .int .i64 i ∧ m = R.W.length - i ∧ ∀ j : Nat, ∀ hj : j < R.W.length, j < i → R.W[j].pl ≠ t) R.W.length ⟨rfl, 0, by omega, rfl, by omega, fun j _ h => by omega⟩ ?_
  rintro m v w' ⟨rfl, i, hi, rfl, rfl, hno⟩
  have hhead := h.head
  by_cases hlt : i < R.W.length
  · obtain ⟨g, cap, rest, rfl, hg, hgx, _⟩ := h.openW hlt
    have hc := (rw_get R.W rest hlt).1
    have hw : IntKind.i64.wrap ((i : Int) + 1) = ((i + 1 : Nat) : Int) := by rw [wrap_i64 (by omega) (by omega)]; rfl
    generalize (R.W.flatMap rwCells ++ rest).toArray = cs at *
    simp [hhead, hlt, hg, hc, hw]
    by_cases e : R.W[i].pl = t
    · simp [e]
      unfold RB.first
      rw [findI_some' hlt (by simpa using e) fun j hj hji => by simpa using hno j hj hji]
      rfl
    · simp [e]
      refine ⟨_, ?_, i + 1, by omega, rfl, rfl, fun j hj hji => ?_⟩
      · omega
      · by_cases e2 : j = i
        · subst e2; exact e
        · exact hno j hj (by omega)
  · simp [hhead, hlt, hv0]
    unfold RB.first
    rw [findI_none' fun j hj => by simpa using hno j hj (by omega)]
    rfl

set_option maxRecDepth 100000 in
theorem waits114 (h : DocAt own w x R pv wv) (hbig : R.W.length < 1000000000) (t : Int) :
    Calls Try.prog 114 #[.pointer (some ⟨x, 0, none⟩), .int .i64 t] w fun en w' => en = .returned (.int .i64 (idxI (R.waits t))) ∧ w' = w := by
  apply vk114
  unfold vc114
  obtain ⟨a0, c0, hv0⟩ := row_slice h.ws
  refine loopK1 (fun m v w' => w' = w ∧ ∃ i : Nat, i ≤ R.W.length ∧ v = .int .i64 i ∧ m = R.W.length - i ∧ ∀ j : Nat, ∀ hj : j < R.W.length, j < i → R.W[j].th ≠ t) R.W.length ⟨rfl, 0, by omega, rfl, by omega, fun j _ h => by omega⟩ ?_
  rintro m v w' ⟨rfl, i, hi, rfl, rfl, hno⟩
  have hhead := h.head
  by_cases hlt : i < R.W.length
  · obtain ⟨g, cap, rest, rfl, hg, hgx, _⟩ := h.openW hlt
    have hc := (rw_get R.W rest hlt).2.1
    have hw : IntKind.i64.wrap ((i : Int) + 1) = ((i + 1 : Nat) : Int) := by rw [wrap_i64 (by omega) (by omega)]; rfl
    generalize (R.W.flatMap rwCells ++ rest).toArray = cs at *
    simp [hhead, hlt, hg, hc, hw]
    by_cases e : R.W[i].th = t
    · simp [e]
      unfold RB.waits
      rw [findI_some' hlt (by simpa using e) fun j hj hji => by simpa using hno j hj hji]
      rfl
    · simp [e]
      refine ⟨_, ?_, i + 1, by omega, rfl, rfl, fun j hj hji => ?_⟩
      · omega
      · by_cases e2 : j = i
        · subst e2; exact e
        · exact hno j hj (by omega)
  · simp [hhead, hlt, hv0]
    unfold RB.waits
    rw [findI_none' fun j hj => by simpa using hno j hj (by omega)]
    rfl

set_option maxRecDepth 100000 in
theorem refused108 (e : Int) (w : World) : Calls Try.prog 108 #[.int .i64 e] w fun en w' => en = .returned (outV (refused e)) ∧ Upd (fun _ => False) w w' := by
  apply vk108
  unfold vc108
  simp [b66r]
  refine exit66 (alloc_new _ _) z66 ?_
  exact ⟨rfl, ((Upd.refl _ w).alloc _).putB (.inl (Nat.le_refl _)) _⟩

set_option maxRecDepth 100000 in
theorem may109 (h : DocAt own w x R pv wv) (hb1 : R.P.length < 1000000000) (hb2 : R.W.length < 1000000000) (i : Int) (bell : Bool) (t : Int) :
    Calls Try.prog 109 #[.pointer (some ⟨x, 0, none⟩), .int .i64 i, .bool bell, .int .i64 t] w fun en w' => en = .returned (.int .i64 (R.may i bell t)) ∧ w' = w := by
  apply vk109
  unfold vc109
  refine callK_of (place103 h hb1 i) ?_
  rintro r w2 ⟨rfl, rfl⟩
  refine ⟨_, rfl, ?_⟩
  unfold RB.may
  cases he : R.place i with
  | none => simp [idxI]
  | some k =>
    have hk := findI_lt' he
    obtain ⟨g, cap, rest, rfl, hg, hgx, _⟩ := h.openP hk
    have hc := (rp_get R.P rest hk).2.1
    have h0 : ¬ (k : Int) < 0 := by omega
    have hhead := h.head
    simp only [getD_lt _ _ hk]
    generalize (R.P.flatMap rpCells ++ rest).toArray = cs at *
    by_cases hb : R.P[k].bell = bell
    · simp [idxI, h0, hhead, hk, hg, hc, hb]
      refine callK_of (waits114 h hb2 t) ?_
      rintro r w3 ⟨rfl, rfl⟩
      refine ⟨_, rfl, ?_⟩
      cases hw : R.waits t with
      | none => simp [idxI]
      | some j =>
        have : (0 : Int) ≤ j := by omega
        simp [idxI, this]
    · simp [idxI, h0, hhead, hk, hg, hc, hb]

set_option maxRecDepth 100000 in
theorem DWord (h : DocAt own w x R pv wv) (hb1 : R.P.length < 1000000000) (i : Int) :
    Calls Try.prog 74 #[.pointer (some ⟨x, 0, none⟩), .int .i64 i] w fun en w' => en = .returned (.tuple #[.int .u32 (R.wordOf i).1, .int .i64 (R.wordOf i).2]) ∧ w' = w := by
  apply vk74
  unfold vc74
  refine callK_of (place103 h hb1 i) ?_
  rintro r w2 ⟨rfl, rfl⟩
  refine ⟨_, rfl, ?_⟩
  unfold RB.wordOf
  cases he : R.place i with
  | none => simp [idxI]
  | some k =>
    have hk := findI_lt' he
    obtain ⟨g, cap, rest, rfl, hg, hgx, _⟩ := h.openP hk
    have hc := (rp_get R.P rest hk).2.1
    have hc2 := (rp_get R.P rest hk).2.2
    have h0 : ¬ (k : Int) < 0 := by omega
    have hhead := h.head
    simp only [getD_lt _ _ hk]
    generalize (R.P.flatMap rpCells ++ rest).toArray = cs at *
    cases hb : R.P[k].bell <;> simp [idxI, h0, hhead, hk, hg, hc, hc2, hb]

set_option maxRecDepth 100000 in
theorem DWhere (h : DocAt own w x R pv wv) (hb2 : R.W.length < 1000000000) (t : Int) :
    Calls Try.prog 73 #[.pointer (some ⟨x, 0, none⟩), .int .i64 t] w fun en w' => en = .returned (.tuple #[.int .i64 (R.where_ t).1, .int .i64 (R.where_ t).2]) ∧ Upd (fun _ => False) w w' := by
  apply vk73
  unfold vc73
  refine callK_of (waits114 h hb2 t) ?_
  rintro r w2 ⟨rfl, rfl⟩
  refine ⟨_, rfl, ?_⟩
  unfold RB.where_
  cases he : R.waits t with
  | none => simp [idxI]; exact Upd.refl _ _
  | some k =>
    have hk := findI_lt' he
    obtain ⟨g, cap, rest, rfl, hg, hgx, _⟩ := h.openW hk
    have hc := (rw_get R.W rest hk).1
    have hc2 := (rw_get R.W rest hk).2.2
    have h0 : ¬ (k : Int) < 0 := by omega
    have hhead := h.head
    simp only [getD_lt _ _ hk]
    generalize (R.W.flatMap rwCells ++ rest).toArray = cs at *
    simp [idxI, h0, hhead, hk, hg, hc, hc2]
    exact (Upd.refl _ _).drew
end
end Go.Proofs.Ytaniphdbebdhhaa.Ipc
