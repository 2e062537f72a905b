/-
  Contract of the scheduler's Next. No condition.
-/
import Derived.Test.YtaniphdbebdhhaaSc4
namespace Go.Proofs.Ytaniphdbebdhhaa
open Go.Vk Vk.Sched

/-- What a scheduler keeps. -/
structure POk (S : PS) : Prop where
  len : 1 ≤ S.turns.length ∧ S.turns.length ≤ 16
  each : ∀ t ∈ S.turns, 0 ≤ t.1 ∧ t.1 < 8 ∧ 1 ≤ t.2 ∧ t.2 ≤ 1000
  turn : 0 ≤ S.turn ∧ S.turn < S.turns.length
  left : 0 ≤ S.left ∧ S.left ≤ 1000
  q : ∀ i : Nat, i < 64 → (S.q i).length < 1000000000
  mem : ∀ i : Nat, i < 64 → ∀ t ∈ S.q i, ∃ e, S.all t = some e ∧ e.at = i

theorem first_calls {w : World} {x o : Nat} {cs : Array Value} {T : TypeId} {fr : Nat × Nat} (hx : w.heap[x]? = some (.cells cs T fr)) {v : Value} {t : Int} {l : List Int}
    (hv : w.ownsRow 0 3 1 v (t :: l).length (nums (t :: l))) (ho : cs[o]? = some v) :
    Calls Try.prog 56 #[.pointer (some ⟨x, o, none⟩)] w fun en w' => en = .returned (.int .i64 t) ∧ w' = w := by
  rcases row_open hv with ⟨_, h0, _⟩ | ⟨g, cap, rest, rfl, hg, hn, hm, hs, hl⟩
  · simp at h0
  apply vk56
  have hg' : w.heap[g]? = some (.cells (.int .i64 t :: (nums l ++ rest)).toArray 3 (0, 0)) := hg
  simp [vc56, hx, ho, hg']

theorem turn_cell {ts : List (Int × Int)} {i : Nat} (h : i < ts.length) (rest : List Value) : (turnCells ts ++ rest).toArray[i * 2]? = some (.int .i64 ts[i].1) ∧ (turnCells ts ++ rest).toArray[i * 2 + 1]? = some (.int .i64 ts[i].2) := by
  induction ts generalizing i with
  | nil => simp at h
  | cons a ts ih =>
    cases i with
    | zero => simp [turnCells]
    | succ i =>
      have := ih (i := i) (by simpa using h)
      have e : turnCells (a :: ts) = .int .i64 a.1 :: .int .i64 a.2 :: turnCells ts := rfl
      simp only [e, List.getElem?_toArray, List.cons_append, List.getElem_cons_succ] at this ⊢
      rw [show (i + 1) * 2 = i * 2 + 1 + 1 by omega, show i * 2 + 1 + 1 + 1 = (i * 2 + 1) + 1 + 1 by omega]
      simpa using this

/-- How a round of Next finds things: the queues of k and above are empty. -/
def NextI (w2 : World) (T : PS) (d : Int) (m : Nat) (v : Value) (w' : World) : Prop :=
  w' = w2 ∧ ∃ k : Nat, k ≤ 8 ∧ v = .int .i64 ((k : Int) - 1) ∧ m = k ∧ ∀ p : Nat, k ≤ p → p < 8 → T.q (8 * d + p) = []

theorem wrap_dec (x : Int) : IntKind.i64.wrap (x - 1) = dec x := by
  unfold IntKind.wrap dec
  simp only [IntKind.bits, IntKind.signed, Bool.true_and, decide_eq_true_eq, ge_iff_le]
  split <;> omega

section
variable {own : Nat → Option Tag} {w : World} {x : Nat} {S : PS} {tv : Value} {m : Nat} {lv : Nat → Value} {l : List Ent3} {c : Nat} {eb : Int → Nat}

theorem tgetD {i : Int} (h0 : 0 ≤ i) (h1 : i < S.turns.length) : ∃ hi : i.toNat < S.turns.length, S.turns.getD i.toNat (0, 0) = S.turns[i.toNat] := ⟨by omega, by rw [List.getD_eq_getElem?_getD, List.getElem?_eq_getElem (by omega)]; rfl⟩

theorem POk.tick (h : POk S) : POk S.tick := by
  have ⟨l1, l2⟩ := h.len
  have ⟨t1, t2⟩ := h.turn
  have ⟨f1, f2⟩ := h.left
  unfold PS.tick
  by_cases e : S.left = 0
  · rw [if_pos e]
    have hm0 : 0 ≤ (S.turn + 1) % (S.turns.length : Int) := Int.emod_nonneg _ (by omega)
    have hm1 : (S.turn + 1) % (S.turns.length : Int) < S.turns.length := Int.emod_lt_of_pos _ (by omega)
    obtain ⟨hi, hg⟩ := tgetD hm0 hm1
    have := h.each _ (List.getElem_mem hi)
    refine ⟨h.len, h.each, ⟨hm0, hm1⟩, ?_, h.q, h.mem⟩
    simp only [hg]
    omega
  · rw [if_neg e]
    exact ⟨h.len, h.each, h.turn, by simp only; omega, h.q, h.mem⟩

set_option maxRecDepth 100000 in
theorem Next_calls (h : SchedAt own w x S tv m lv l c eb) (hok : POk S) :
    Calls Try.prog 17 #[.pointer (some ⟨x, 0, none⟩)] w fun en w' => en = .returned (.int .i64 S.next.1) ∧ SchedNext own w w' x S.next.2 := by
  have ⟨l1, l2⟩ := hok.len
  have ⟨t1, t2⟩ := hok.turn
  have ⟨f1, f2⟩ := hok.left
  rcases row_open h.turns with ⟨_, h0, _⟩ | ⟨g, cap, rest, rfl, hg, hn, hm, hs, hl⟩
  · omega
  have hgx : g ≠ x := fun e => by have := h.o_turns g rfl; rw [e, h.o_head] at this; simp at this
  have hmo : ((S.turn + 1).tmod (S.turns.length : Int)) = (S.turn + 1) % S.turns.length := Int.tmod_eq_emod_of_nonneg (by omega)
  have hw1 : IntKind.i64.wrap (S.turn + 1) = S.turn + 1 := wrap_i64 (by omega) (by omega)
  apply vk17
  unfold vc17
  refine joinK0 (fun w' => ∃ turn' left', w'.heap[x]? = some (.cells (schedCells (.slice (some ⟨g, 0, none⟩) S.turns.length cap) turn' left' m lv) 99 (0, 0)) ∧ Upd (fun b => b = x) w w' ∧ S.tick = { S with turn := turn', left := left' - 1 } ∧ 1 ≤ left' ∧ left' ≤ 1000) ?_ ?_
  · by_cases e : S.left = 0
    · have hn0 : (S.turns.length : Int) ≠ 0 := by omega
      have hm0 : 0 ≤ (S.turn + 1) % (S.turns.length : Int) := Int.emod_nonneg _ (by omega)
      have hm1 : (S.turn + 1) % (S.turns.length : Int) < S.turns.length := Int.emod_lt_of_pos _ (by omega)
      obtain ⟨hi, hgd⟩ := tgetD (S := S) hm0 hm1
      have htc := (turn_cell hi rest).2
      have he := hok.each _ (List.getElem_mem hi)
      have hgx1 := blk_lt h.head
      have hgg : ∀ o, (putB w.drew x o).heap[g]? = some (.cells (turnCells S.turns ++ rest).toArray 36 (0, 0)) := fun o => by rw [putB_other hgx]; exact hg
      simp [h.head, e, hw1, stK_int_rem _ _ _ _ _ hn0, hmo, sc_set1, sc_set2, putB_same (w := w.drew) hgx1, hm0, hm1, hgg, htc]
      refine ⟨_, _, putB_same (by simpa using hgx1) _, (((Upd.refl (fun b => b = x) w).drew.putB (.inr rfl) _).drew.putB (.inr rfl) _), ?_, he.2.2.1, he.2.2.2⟩
      unfold PS.tick
      rw [if_pos e]
      simp only [hgd]
    · simp [h.head, e]
      refine ⟨_, _, rfl, Upd.refl _ _, ?_, ?_, f2⟩
      · unfold PS.tick; rw [if_neg e]
      · omega
  rintro w1 ⟨turn', left', hx1, hu1, htick, b1, b2⟩
  have hokT := hok.tick
  rw [htick] at hokT
  have ⟨u1, u2⟩ := hokT.turn
  simp only at u1 u2
  obtain ⟨hi, hgd⟩ := tgetD (S := S) u1 u2
  have hdm := hok.each _ (List.getElem_mem hi)
  have htc := (turn_cell hi rest).1
  have hx1l := blk_lt hx1
  have hws : IntKind.i64.wrap (left' - 1) = left' - 1 := wrap_i64 (by omega) (by omega)
  have hgg : ∀ o, (putB w1 x o).heap[g]? = some (.cells (turnCells S.turns ++ rest).toArray 36 (0, 0)) := fun o => by rw [putB_other hgx, hu1.old g (blk_lt hg) hgx]; exact hg
  simp [hx1, hws, sc_set2, putB_same hx1l, u1, u2, hgg, htc, hdm]
  have hT := h.setHead (turn := turn') (left := left' - 1) (w' := (putB w1 x (.cells (schedCells (.slice (some ⟨g, 0, none⟩) S.turns.length cap) turn' (left' - 1) m lv) 99 (0, 0))).drew) (putB_same hx1l _)
    (fun b hb hbx => by show (putB _ _ _).heap[b]? = _; rw [putB_other hbx, hu1.old b (h.lt b hb) hbx]) (by have := hu1.size; simpa using this)
  have hu2 : Upd (fun b => own b ≠ none) w (putB w1 x (.cells (schedCells (.slice (some ⟨g, 0, none⟩) S.turns.length cap) turn' (left' - 1) m lv) 99 (0, 0))).drew :=
    ((hu1.mono (G := fun b => own b ≠ none) fun b hb => by rw [hb, h.o_head]; simp).putB (.inr (by rw [h.o_head]; simp)) _).drew
  have hdom : S.tick.dom = S.turns[turn'.toNat].1 := by rw [htick]; unfold PS.dom; rw [hgd]
  have hnext : S.next = (match S.tick.top S.tick.dom 8 with
    | none => (-1, S.tick)
    | some (p, t) =>
      match S.tick.all t with
      | none => (-1, S.tick)
      | some e =>
        let S1 := if e.left = 0 then S.tick.last t e else S.tick
        let t1 := (S1.q (8 * S.tick.dom + p)).headD (-1)
        match S1.all t1 with
        | none => (-1, S.tick)
        | some e1 => (t1, { S1 with all := up S1.all t1 (some { e1 with left := dec e1.left }) })) := rfl
  rw [hdom] at hnext
  rw [← htick] at hT hokT
  generalize (putB w1 x (.cells (schedCells (.slice (some ⟨g, 0, none⟩) S.turns.length cap) turn' (left' - 1) m lv) 99 (0, 0))).drew = w2 at hT hu2 ⊢
  generalize S.tick = T at hT hokT hnext
  generalize hd : S.turns[turn'.toNat].1 = d at hdm hnext ⊢
  generalize S.next = res at hnext
  generalize (Value.slice (some ⟨g, 0, none⟩) S.turns.length cap) = tv at hT
  have hd1 := hdm.1
  have hd2 := hdm.2.1
  clear hdm hd hdom htick hx1 hgg hgd htc h hok
  refine loopK1 (NextI w2 T d) 8 ⟨rfl, 8, Nat.le_refl _, rfl, rfl, fun p h1 h2 => by omega⟩ ?_
  rintro k v w' ⟨rfl, _, hk, rfl, rfl, hempty⟩
  cases k with
  | zero =>
    have htop := top_none (S := T) (d := d) (k := 8) (fun p hp => hempty p (by omega) hp)
    rw [htop] at hnext
    simp only at hnext
    subst hnext
    simp
    exact ⟨own, ⟨_, _, _, _, _, _, hT⟩, fun _ hb => .inl hb, hu2⟩
  | succ p =>
    have e1 : ((p + 1 : Nat) : Int) - 1 = p := by omega
    rw [e1]
    have hi64 : d.toNat * 8 + p < 64 := by omega
    have hqi : 8 * d + (p : Int) = ((d.toNat * 8 + p : Nat) : Int) := by omega
    have hrow := hT.lines _ hi64
    obtain ⟨a0, c0, hv0⟩ := row_slice hrow
    have hcell := sc_line tv T.turn T.left m lv hi64
    have hp8 : p < 8 := by omega
    have hpi : (p : Int) < 8 := by omega
    have haddr : 4 + d.toNat * 8 + p = 4 + (d.toNat * 8 + p) := by omega
    simp [hpi, haddr]
    refine callK_of (len_calls hT.head (hcell.trans (by rw [hv0]))) ?_
    rintro r w3 ⟨rfl, rfl⟩
    refine ⟨_, rfl, ?_⟩
    cases hql : T.q (8 * d + (p : Int)) with
    | nil =>
      have hwz : IntKind.i64.wrap ((p : Int) - 1) = (p : Int) - 1 := wrap_i64 (by omega) (by omega)
      simp [← hqi, hql, hwz]
      refine ⟨p, by omega, rfl, p, by omega, rfl, rfl, fun q h1 h2 => ?_⟩
      rcases Nat.eq_or_lt_of_le h1 with e | e
      · subst e; exact hql
      · exact hempty q e h2
    | cons t rest' =>
      obtain ⟨e, he, hat⟩ := hokT.mem _ hi64 t (by rw [← hqi, hql]; simp)
      have htop := top_some (S := T) (d := d) (p := p) (t := t) (l := rest') hql (k := 8) hp8 (fun p' h1 h2 => hempty p' (by omega) h2)
      rw [htop] at hnext
      simp only [he] at hnext
      rw [← hqi, hql] at hrow
      have hne : ¬ ((rest'.length : Int) + 1 = 0) := by omega
      simp [← hqi, hql, hne]
      refine callK_of (first_calls hT.head hrow hcell) ?_
      rintro r w4 ⟨rfl, rfl⟩
      refine ⟨_, rfl, ?_⟩
      apply joinK_now
      simp [hT.head, look92 hT.map, hT.here he, hT.cells he]
      by_cases hleft : e.left = 0
      · simp [hleft]
        refine callK_of (last_calls hT he hokT.q) ?_
        rintro r w5 ⟨rfl, ⟨own', lv', h5, h6⟩, h7⟩
        refine ⟨_, rfl, ?_⟩
        have hq5 : (T.last t e).q ((d.toNat * 8 + p : Nat) : Int) = without t (t :: rest') ++ [t] := by
          unfold PS.last
          simp only [hat, up_same]
          rw [← hqi, hql]
        obtain ⟨t1, r1, hq6⟩ : ∃ t1 r1, without t (t :: rest') ++ [t] = t1 :: r1 := by
          cases without t (t :: rest') with
          | nil => exact ⟨_, _, rfl⟩
          | cons a b => exact ⟨_, _, rfl⟩
        have hmem : ∃ e1, (T.last t e).all t1 = some e1 := by
          by_cases e2 : t1 = t
          · exact ⟨_, by rw [e2]; exact up_same _ _ _⟩
          · have hm1 : t1 ∈ without t (t :: rest') ++ [t] := by rw [hq6]; simp
            have hm2 : t1 ∈ t :: rest' := by
              rcases List.mem_append.1 hm1 with h | h
              · exact (List.mem_filter.1 h).1
              · exact absurd (List.mem_singleton.1 h) e2
            obtain ⟨e1, he1, _⟩ := hokT.mem _ hi64 t1 (by rw [← hqi, hql]; exact hm2)
            exact ⟨e1, by show up T.all t _ t1 = _; rw [up_other _ _ _ _ e2]; exact he1⟩
        obtain ⟨e1, he1⟩ := hmem
        have hrow5 := h5.lines _ hi64
        rw [hq5, hq6] at hrow5
        refine callK_of (first_calls h5.head hrow5 (sc_line _ _ _ _ _ hi64)) ?_
        rintro r w6 ⟨rfl, rfl⟩
        refine ⟨_, rfl, ?_⟩
        rw [if_pos hleft] at hnext
        simp only [hqi, hq5, hq6, List.headD_cons, he1] at hnext
        subst hnext
        simp [h5.head, look92 h5.map, h5.here he1, h5.cells he1, wrap_dec]
        refine ⟨own', ⟨_, _, _, _, _, _, h5.setEnt (e' := { e1 with left := dec e1.left }) he1 (putB_same (blk_lt (h5.cells he1)) _) (by have := h5.bd _ _ he1; exact this) (fun b hb hbe => by rw [putB_other hbe]) (by simp)⟩, fun b hb => ?_, ?_⟩
        · rcases h6 b hb with h | h
          · exact .inl h
          · right; have := hu2.size; omega
        · refine (hu2.trans h7 fun b _ hb => hb).putB ?_ _
          rcases h6 (eb t1) (by rw [h5.o_ent _ _ he1]; simp) with h | h
          · exact .inr h
          · left; have := hu2.size; omega
      · simp [hleft]
        rw [if_neg hleft] at hnext
        simp only [hql, List.headD_cons, he] at hnext
        subst hnext
        simp [wrap_dec]
        refine ⟨own, ⟨_, _, _, _, _, _, hT.setEnt (e' := { e with left := dec e.left }) he (putB_same (blk_lt (hT.cells he)) _) (by have := hT.bd _ _ he; exact this) (fun b hb hbe => by rw [putB_other hbe]) (by simp)⟩, fun b hb => .inl hb, ?_⟩
        exact hu2.putB (.inr (by rw [hT.o_ent _ _ he]; simp)) _
end
end Go.Proofs.Ytaniphdbebdhhaa
