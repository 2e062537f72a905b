/-
  Contracts of the bus's calls: New, Open, Send, Get, Ring, Hear, Cancel. No condition.
-/
import Derived.Test.YtaniphdbebdhhaaIp5
namespace Go.Proofs.Ytaniphdbebdhhaa.Ipc
open Go.Vk Vk.Ipc

def bor32 (a b : Int) : Int := IntKind.u32.wrap (BitVec.ofInt 32 a ||| BitVec.ofInt 32 b).toNat
theorem run_or32 {P : Program} (x y : Int) (t u : TypeId) (ty : TypeId) (w : World) : (execOp bare { dst := none, op := .binOp .or t (.const (.int .u32 x)) (.const (.int .u32 y)) u, type := ty, pos := "", after := #[], guard := none }).run P w = .ok (.value (.int .u32 (bor32 x y))) w := by
  simp [execOp, bare, Act.eval, eqGuard, binOp, Op.intBits]
  rfl
@[simp ↓] theorem opK_or32 {P : Program} (x y : Int) (t u : TypeId) (ty : TypeId) (w : World) (K : Value → World → Prop) : opK P (.binOp .or t (.const (.int .u32 x)) (.const (.int .u32 y)) u) ty w K = K (.int .u32 (bor32 x y)) w := opK_of (run_or32 x y t u ty w) rfl

theorem b126 (a b : Nat) (ty : TypeId) (w : World) (K : Value → World → Prop) : opK Try.prog (.build 126 #[(0, .const (.map (some a))), (1, .const (.map (some b)))]) ty w K = K (.agg #[.map (some a), .map (some b)]) w := opK_of (by kernel_rfl) rfl
theorem b132 (b : Bool) (ty : TypeId) (w : World) (K : Value → World → Prop) : opK Try.prog (.build 132 #[(0, .const (.bool b))]) ty w K = K (.agg #[.bool b, .slice none 0 0, .int .u32 0]) w := opK_of (by kernel_rfl) rfl

theorem New18 (w : World) : Calls Try.prog 18 #[] w fun en w' => ∃ x own, en = .returned (.pointer (some ⟨x, 0, none⟩)) ∧ BusIn own w' x ⟨fun _ => none, fun _ => none⟩ ∧ (∀ b, own b ≠ none → w.heap.size ≤ b) ∧ Upd (fun _ => False) w w' := by
  apply vk18
  unfold vc18
  simp [b126]
  refine ⟨fun b => if b = w.heap.size then some .m1 else if b = w.heap.size + 1 then some .m2 else if b = w.heap.size + 2 then some .head else none, ?_, fun b hb => ?_, (((Upd.refl _ w).alloc _).alloc _).alloc _⟩
  · refine ⟨w.heap.size, w.heap.size + 1, [], 0, [], 0, fun _ => 0, fun _ => undef, ?_, ?_, ?_, by simp [mkeys], by simp [mkeys], fun _ => rfl, fun _ => rfl, fun _ _ h => by simp at h, fun _ _ h => by simp at h, by simp; omega, by simp, by simp, fun _ _ h => by simp at h, fun _ _ h => by simp at h, fun b hb => ?_⟩
    · have := alloc_new ((w.alloc (.map #[] 0)).alloc (.map #[] 0)) (.cells #[.map (some w.heap.size), .map (some (w.heap.size + 1))] 126)
      simp only [size_alloc'] at this
      exact this
    · rw [alloc_old (by simp; omega), alloc_old (by simp)]; exact alloc_new _ _
    · rw [alloc_old (by simp)]
      have := alloc_new (w.alloc (.map #[] 0)) (.map #[] 0)
      simp only [size_alloc'] at this
      exact this
    · by_cases e1 : b = w.heap.size
      · simp [e1]; omega
      · by_cases e2 : b = w.heap.size + 1
        · simp [e2]
        · by_cases e3 : b = w.heap.size + 2
          · simp [e3]
          · simp [e1, e2, e3] at hb
  · by_cases e1 : b = w.heap.size
    · omega
    · by_cases e2 : b = w.heap.size + 1
      · omega
      · by_cases e3 : b = w.heap.size + 2
        · omega
        · simp [e1, e2, e3] at hb

section
variable {own : Nat → Option BTag} {w : World} {x : Nat} {S : PB} {m1 m2 : Nat} {l1 : List Ent3} {c1 : Nat} {l2 : List Ent3} {c2 : Nat} {pb : Int → Nat} {lv : Int → Value}

set_option maxRecDepth 100000 in
theorem Open_calls (h : BusAt own w x S m1 m2 l1 c1 l2 c2 pb lv) (i : Int) (bell : Bool) :
    Calls Try.prog 19 #[.pointer (some ⟨x, 0, none⟩), .int .i64 i, .bool bell] w fun en w' => en = .returned (.int .i64 (S.opn i bell).1) ∧ BusNext own w w' x (S.opn i bell).2 := by
  apply vk19
  unfold PB.opn
  by_cases hi : i < 0
  · simp [vc19, hi]
    exact h.next
  · simp only [hi, if_false]
    cases hp : S.places i with
    | some p =>
      simp [vc19, hi, h.head, look123 h.map1, h.some1 hp]
      exact h.next
    | none =>
      have hm1 := h.in h.o_m1
      have hma : ∀ o, (w.alloc o).heap[m1]? = some (.map (ents l1) c1) := fun o => (alloc_old hm1 _).trans h.map1
      simp [vc19, hi, h.head, look123 h.map1, h.none1 hp, b132, upd123 (hma _)]
      have hsz : m1 < (w.alloc (.cells #[.bool bell, .slice none 0 0, .int .u32 0] 132)).heap.size := by simp; omega
      have hB := h.put (w' := putB (w.alloc (.cells #[.bool bell, .slice none 0 0, .int .u32 0] 132)) m1 (.map (ents (mput l1 c1 i (.pointer (some ⟨w.heap.size, 0, none⟩)))) (mclk l1 c1 i)))
        (own' := fun b => if b = w.heap.size then some (.place i) else own b) (i := i) (p' := ⟨bell, [], 0⟩) (v' := .slice none 0 0) (nb := w.heap.size) (l1' := mput l1 c1 i (.pointer (some ⟨w.heap.size, 0, none⟩))) (c1' := mclk l1 c1 i)
        (putB_same hsz _) (mput_nodup h.nd1 _ _ _) (fun j => by rw [mget_mput]) (by rw [putB_other (by omega)]; exact alloc_new _ _) (World.ownsRow_nil _ _ _ _)
        (fun b T hb h1 _ _ => by rw [putB_other (h.ne hb h.o_m1 h1), alloc_old (h.in hb)]) (fun b T hb => by rw [if_neg (by have := h.in hb; omega)]; exact hb) (by simp) (fun b hb => by simp [Value.ownBlock] at hb) (fun b hb => by
          by_cases e : b = w.heap.size
          · subst e; simp
          · simp only [if_neg e] at hb; have := h.lt b hb; simp; omega)
      refine ⟨_, ⟨_, _, _, _, _, _, _, _, hB⟩, fun b hb => ?_, ((Upd.refl _ w).alloc _).putB (.inr (by rw [h.o_m1]; simp)) _⟩
      by_cases e : b = w.heap.size
      · right; omega
      · simp only [if_neg e] at hb; exact .inl hb

/-- A result in a new variable, and back. -/
theorem out_of {W0 W : World} {b : Nat} {o : Out} {cs : Array Value} {Pe : Value → Prop} {S' : PB} (hlt : ∀ c, own c ≠ none → c < w.heap.size) (hu : Upd (fun _ => False) w W0) (h0 : W0.heap[b]? = some (.cells cs 66 (0, 0))) (hs : cs.size = 11) (hbw : w.heap.size ≤ b) (hn : BusNext own W0 W x S') (hPe : Pe (outV o)) :
    stn 11 (.pointer (some ⟨b, 0, none⟩)) (outV o) W fun _ w' => resK Try.prog [(.pointer (some ⟨b, 0, none⟩), some 66)] w' fun v w' => Pe v ∧ BusNext own w w' x S' := by
  obtain ⟨own', h1, h2, h3⟩ := hn
  have hob : own b = none := by
    cases e : own b with
    | none => rfl
    | some T => have := hlt b (by rw [e]; simp); omega
  have hb0 := blk_lt h0
  have hb := (h3.old b hb0 (by rw [hob]; simp)).trans h0
  have hob' : own' b = none := by
    cases e : own' b with
    | none => rfl
    | some T =>
      rcases h2 b (by rw [e]; simp) with h4 | h4
      · exact absurd hob h4
      · omega
  refine exit66 hb hs ⟨hPe, own', h1.frame (fun c hc => putB_other (fun e => hc (by rw [e, hob'])) _) (by simp), fun c hc => (h2 c hc).imp id fun e => Nat.le_trans hu.size e, ?_⟩
  exact ((hu.mono fun _ f => f.elim).trans h3 fun _ _ hh => hh).putB (.inl hbw) _

theorem at_cases (S : PB) (i : Int) (b : Bool) (t : Int) : (∃ e, S.at i b t = (e, none) ∧ e ≠ 0) ∨ (∃ p, S.at i b t = (0, some p) ∧ S.places i = some p ∧ p.bell = b ∧ S.wher t = none) := by
  unfold PB.at
  cases hp : S.places i with
  | none => exact .inl ⟨6, rfl, by decide⟩
  | some p =>
    by_cases hb : p.bell = b
    · simp only [hb, if_true]
      cases hw : S.wher t with
      | none => exact .inr ⟨p, rfl, rfl, hb, rfl⟩
      | some j => exact .inl ⟨16, rfl, by decide⟩
    · simp only [hb, if_false]; exact .inl ⟨6, rfl, by decide⟩

theorem BusAt.new (h : BusAt own w x S m1 m2 l1 c1 l2 c2 pb lv) {b : Nat} (hb : w.heap.size ≤ b) : own b = none := by
  cases e : own b with
  | none => rfl
  | some T => have := h.in e; omega
theorem BusNext.keep {W W' : World} {S' : PB} (hn : BusNext own W W' x S') {b : Nat} {o : Obj} (hb : W.heap[b]? = some o) (ho : own b = none) : W'.heap[b]? = some o := by
  obtain ⟨_, _, _, h3⟩ := hn
  exact (h3.old b (blk_lt hb) (by rw [ho]; simp)).trans hb

set_option maxRecDepth 100000 in
theorem Send_calls (h : BusAt own w x S m1 m2 l1 c1 l2 c2 pb lv) (hq : ∀ i p, S.places i = some p → p.line.length < 1000000000) (i t how : Int) (m : Msg) :
    Calls Try.prog 61 #[.pointer (some ⟨x, 0, none⟩), .int .i64 i, .int .i64 t, .int .i64 how, mV m] w fun en w' => en = .returned (outV (S.send i t how m).1) ∧ BusNext own w w' x (S.send i t how m).2 := by
  apply vk61
  unfold vc61
  obtain ⟨W, hW, hu, f0, f1, hs⟩ := two w (.cells (mCells m).toArray 64) (.cells zero66 66)
  have hA := h.upd hu
  have rd := readN_full (mCells m) (m_len m)
  simp only [opK_box, opK_alloc_66, size_alloc', mV_cells, hW]
  have fin : ∀ {W' : World} {S' : PB} {o : Out}, BusNext own W W' x S' → (o, S') = S.send i t how m → stn 11 (.pointer (some ⟨w.heap.size + 1, 0, none⟩)) (outV o) W' fun _ w' => resK Try.prog [(.pointer (some ⟨w.heap.size + 1, 0, none⟩), some 66)] w' fun v w' => v = outV (S.send i t how m).1 ∧ BusNext own w w' x (S.send i t how m).2 := fun hn e => by
    rw [← e]
    exact out_of h.lt hu f1 z66 (by omega) hn rfl
  by_cases hh : how = 1 ∨ how = 2 ∨ how = 3 ∨ how = 7
  · have hj : ∀ (M : Value → World → Prop), M (.bool true) W → (opK Try.prog (.binOp .eql 3 (.const (.int .i64 how)) (.const (.int .i64 1)) 3) 4 W fun t16 w =>
        boolK t16 (M t16 w) (opK Try.prog (.binOp .eql 3 (.const (.int .i64 how)) (.const (.int .i64 2)) 3) 4 w fun t17 w =>
        boolK t17 (M t17 w) (opK Try.prog (.binOp .eql 3 (.const (.int .i64 how)) (.const (.int .i64 3)) 3) 4 w fun t18 w =>
        boolK t18 (M t18 w) (opK Try.prog (.binOp .eql 3 (.const (.int .i64 how)) (.const (.int .i64 7)) 3) 4 w fun t19 w => M t19 w)))) := fun M hM => by
      rcases hh with rfl | rfl | rfl | rfl <;> simpa using hM
    apply joinK_now
    refine hj _ ?_
    simp only [boolK_bool, if_true]
    refine callK_of (at104 hA i false t) ?_
    rintro r w2 ⟨rfl, rfl⟩
    refine ⟨_, rfl, ?_⟩
    rcases at_cases S i false t with ⟨e, hat, he⟩ | ⟨p, hat, hp, hb, hw⟩
    · simp [atV, hat, he]
      refine callK_of (refused_calls e w2) ?_
      rintro r w3 ⟨rfl, hu3⟩
      refine ⟨_, rfl, ?_⟩
      exact fin (hA.next.upd hu3) (by unfold PB.send; rw [if_pos hh, hat])
    · simp [atV, hat]
      refine callK_of (gets105 hA hp) ?_
      rintro r w3 ⟨rfl, hu3⟩
      refine ⟨_, rfl, ?_⟩
      have hB := hA.upd hu3
      have f03 := (hu3.old _ (by omega) fun f => f).trans f0
      cases hl : p.line with
      | nil =>
        simp [getsL]
        by_cases h1 : how = 1
        · subst h1
          simp
          refine callK_of (refused_calls 17 w3) ?_
          rintro r w4 ⟨rfl, hu4⟩
          refine ⟨_, rfl, ?_⟩
          exact fin (o := refused 17) ((hA.next.upd hu3).upd hu4) (by unfold PB.send; rw [if_pos hh, hat]; simp [hl])
        · simp [h1, f03, rd]
          rw [show Value.agg (mCells m).toArray = mV m from rfl, b135m]
          refine callK_of (wait107 hB hp (hq i p hp) ⟨t, how, m⟩) ?_
          rintro r w4 ⟨rfl, hn⟩
          refine ⟨_, rfl, ?_⟩
          exact fin (hn.before hu3) (by unfold PB.send; rw [if_pos hh, hat]; simp [hl, h1])
      | cons a l =>
        by_cases h4 : a.how = 4
        · simp [getsL, h4, f03, rd]
          rw [show Value.agg (mCells m).toArray = mV m from rfl]
          refine callK_of (first59 (hB.upd ((Upd.refl _ w3).drew)) hp hl) ?_
          rintro r w4 ⟨rfl, hn⟩
          refine ⟨_, rfl, ?_⟩
          have f04 := hn.keep (b := w.heap.size) f03 (h.new (Nat.le_refl _))
          refine ⟨by simp [f04, rd], ?_⟩
          rw [s135_0]
          refine callK_of (told_calls a.th how m w4) ?_
          rintro r w5 ⟨rfl, hu5⟩
          refine ⟨_, rfl, ?_⟩
          exact fin ((hn.before (hu3.drew)).upd hu5) (by unfold PB.send; rw [if_pos hh, hat]; simp [hl, h4])
        · simp [getsL, h4]
          by_cases h1 : how = 1
          · subst h1
            simp
            refine callK_of (refused_calls 17 w3) ?_
            rintro r w4 ⟨rfl, hu4⟩
            refine ⟨_, rfl, ?_⟩
            exact fin (o := refused 17) ((hA.next.upd hu3).upd hu4) (by unfold PB.send; rw [if_pos hh, hat]; simp [hl, h4])
          · simp [h1, f03, rd]
            rw [show Value.agg (mCells m).toArray = mV m from rfl, b135m]
            refine callK_of (wait107 hB hp (hq i p hp) ⟨t, how, m⟩) ?_
            rintro r w4 ⟨rfl, hn⟩
            refine ⟨_, rfl, ?_⟩
            exact fin (hn.before hu3) (by unfold PB.send; rw [if_pos hh, hat]; simp [hl, h1, h4])
  · have h1 : ¬ how = 1 := fun e => hh (.inl e)
    have h2 : ¬ how = 2 := fun e => hh (.inr (.inl e))
    have h3 : ¬ how = 3 := fun e => hh (.inr (.inr (.inl e)))
    have h7 : ¬ how = 7 := fun e => hh (.inr (.inr (.inr e)))
    apply joinK_now
    simp [h1, h2, h3, h7]
    refine callK_of (refused_calls 1 W) ?_
    rintro r w2 ⟨rfl, hu2⟩
    refine ⟨_, rfl, ?_⟩
    exact fin (hA.next.upd hu2) (by unfold PB.send; rw [if_neg hh])

theorem rd_m (a : Wt) : readN (wtCells a).toArray 2 6 = some (mCells a.m) := rfl
theorem wt_get1 (a : Wt) : (wtCells a).toArray[1]? = some (.int .i64 a.how) := rfl

set_option maxRecDepth 100000 in
theorem Get_calls (h : BusAt own w x S m1 m2 l1 c1 l2 c2 pb lv) (hq : ∀ i p, S.places i = some p → p.line.length < 1000000000) (i t : Int) (wt : Bool) :
    Calls Try.prog 64 #[.pointer (some ⟨x, 0, none⟩), .int .i64 i, .int .i64 t, .bool wt] w fun en w' => en = .returned (outV (S.get i t wt).1) ∧ BusNext own w w' x (S.get i t wt).2 := by
  apply vk64
  unfold vc64
  obtain ⟨W, hW, hu, f0, hs⟩ := one w (.cells zero66 66)
  have hA := h.upd hu
  simp only [opK_alloc_66, hW]
  have fin : ∀ {W' : World} {S' : PB} {o : Out}, BusNext own W W' x S' → (o, S') = S.get i t wt → stn 11 (.pointer (some ⟨w.heap.size, 0, none⟩)) (outV o) W' fun _ w' => resK Try.prog [(.pointer (some ⟨w.heap.size, 0, none⟩), some 66)] w' fun v w' => v = outV (S.get i t wt).1 ∧ BusNext own w w' x (S.get i t wt).2 := fun hn e => by
    rw [← e]
    exact out_of h.lt hu f0 z66 (by omega) hn rfl
  refine callK_of (at104 hA i false t) ?_
  rintro r w2 ⟨rfl, rfl⟩
  refine ⟨_, rfl, ?_⟩
  rcases at_cases S i false t with ⟨e, hat, he⟩ | ⟨p, hat, hp, hb, hw⟩
  · simp [atV, hat, he]
    refine callK_of (refused_calls e w2) ?_
    rintro r w3 ⟨rfl, hu3⟩
    refine ⟨_, rfl, ?_⟩
    exact fin (hA.next.upd hu3) (by unfold PB.get; rw [hat])
  have hrow := hA.line i p hp
  obtain ⟨a0, c0, hv0⟩ := row_slice hrow
  have hc := hA.cells hp
  simp [atV, hat]
  refine callK_of (Len_calls (o := 1) hc (by rw [hv0]; rfl)) ?_
  rintro r w3 ⟨rfl, rfl⟩
  refine ⟨_, rfl, ?_⟩
  cases hl : p.line with
  | nil =>
    cases wt with
    | false =>
      simp
      refine callK_of (refused_calls 17 w3) ?_
      rintro r w4 ⟨rfl, hu4⟩
      refine ⟨_, rfl, ?_⟩
      exact fin (o := refused 17) (hA.next.upd hu4) (by unfold PB.get; rw [hat]; simp [hl])
    | true =>
      simp [b135]
      refine callK_of (wait107 hA hp (hq i p hp) ⟨t, 4, .zero⟩) ?_
      rintro r w4 ⟨rfl, hn⟩
      refine ⟨_, rfl, ?_⟩
      exact fin hn (by unfold PB.get; rw [hat]; simp [hl])
  | cons a l =>
    have h0 : (0 : Int) < ((a :: l).length : Nat) := by simp
    simp [-List.length_cons]
    refine callK_of (gets105 hA hp) ?_
    rintro r w4 ⟨rfl, hu4⟩
    refine ⟨_, rfl, ?_⟩
    have hB := hA.upd hu4
    by_cases h4 : a.how = 4
    · cases wt with
      | false =>
        simp [hl, getsL, h4]
        refine callK_of (refused_calls 17 w4) ?_
        rintro r w5 ⟨rfl, hu5⟩
        refine ⟨_, rfl, ?_⟩
        exact fin (o := refused 17) ((hA.next.upd hu4).upd hu5) (by unfold PB.get; rw [hat]; simp [hl, h4])
      | true =>
        simp [hl, getsL, h4, b135]
        refine callK_of (wait107 hB hp (hq i p hp) ⟨t, 4, .zero⟩) ?_
        rintro r w5 ⟨rfl, hn⟩
        refine ⟨_, rfl, ?_⟩
        exact fin (hn.before hu4) (by unfold PB.get; rw [hat]; simp [hl, h4])
    · simp [hl, getsL, h4]
      refine callK_of (first59 hB hp hl) ?_
      rintro r w5 ⟨rfl, hn⟩
      refine ⟨_, rfl, ?_⟩
      obtain ⟨W6, hW6, hu6, k0, hs6⟩ := one w5 (.cells zero135 135)
      simp [hW6]
      refine full135 (o := a) k0 z135 ?_
      have hu7 := hu6.putB (b := w5.heap.size) (.inl (Nat.le_refl _)) (.cells (wtCells a).toArray 135 (0, 0))
      have k2 : (putB W6 w5.heap.size (.cells (wtCells a).toArray 135 (0, 0))).heap[w5.heap.size]? = some (.cells (wtCells a).toArray 135 (0, 0)) := putB_same (by omega) _
      generalize putB W6 w5.heap.size (.cells (wtCells a).toArray 135 (0, 0)) = W7 at *
      simp [k2, rd_m]
      refine callK_of (told_calls a.th a.how a.m W7) ?_
      rintro r w8 ⟨rfl, hu8⟩
      refine ⟨_, rfl, ?_⟩
      exact fin (((hn.before hu4).upd hu7).upd hu8) (by unfold PB.get; rw [hat]; simp [hl, h4])

theorem setWord (h : BusAt own w x S m1 m2 l1 c1 l2 c2 pb lv) {i : Int} {p : Pl} (hp : S.places i = some p) (wd : Int) :
    BusNext own w (putB w (pb i) (.cells #[.bool p.bell, lv i, .int .u32 wd] 132 (0, 0))) x { S with places := up S.places i (some { p with word := wd }) } := by
  have hlt := h.in (h.o_place i p hp)
  have hb := h.o_place i p hp
  have hB := h.setPlace (w' := putB w (pb i) (.cells #[.bool p.bell, lv i, .int .u32 wd] 132 (0, 0))) (own' := own) (p' := { p with word := wd }) (v' := lv i) hp (putB_same hlt _)
    (row_keep (h.line i p hp) fun g hg => putB_other (h.ne (h.o_line i p hp g hg) hb (by simp)) _) (fun b T hbT h1 _ => putB_other (h.ne hbT hb h1) _) (fun _ _ e => e) (h.o_line i p hp) (fun b hb => by simpa using h.lt b hb)
  exact ⟨own, ⟨_, _, _, _, _, _, _, _, hB⟩, fun _ hb => .inl hb, (Upd.refl _ w).putB (.inr (by rw [hb]; simp)) _⟩

set_option maxRecDepth 100000 in
theorem Ring_calls (h : BusAt own w x S m1 m2 l1 c1 l2 c2 pb lv) (i badge : Int) :
    Calls Try.prog 20 #[.pointer (some ⟨x, 0, none⟩), .int .i64 i, .int .u32 badge] w fun en w' => en = .returned (outV (S.ring bor32 i badge).1) ∧ BusNext own w w' x (S.ring bor32 i badge).2 := by
  apply vk20
  unfold vc20
  obtain ⟨W, hW, hu, f0, hs⟩ := one w (.cells zero66 66)
  have hA := h.upd hu
  simp only [opK_alloc_66, hW]
  have fin : ∀ {W' : World} {S' : PB} {o : Out}, BusNext own W W' x S' → (o, S') = S.ring bor32 i badge → stn 11 (.pointer (some ⟨w.heap.size, 0, none⟩)) (outV o) W' fun _ w' => resK Try.prog [(.pointer (some ⟨w.heap.size, 0, none⟩), some 66)] w' fun v w' => v = outV (S.ring bor32 i badge).1 ∧ BusNext own w w' x (S.ring bor32 i badge).2 := fun hn e => by
    rw [← e]
    exact out_of h.lt hu f0 z66 (by omega) hn rfl
  cases hp : S.places i with
  | none =>
    simp [hA.head, look123 hA.map1, hA.none1 hp]
    refine callK_of (refused_calls 6 W) ?_
    rintro r w3 ⟨rfl, hu3⟩
    refine ⟨_, rfl, ?_⟩
    exact fin (hA.next.upd hu3) (by unfold PB.ring; rw [hp])
  | some p =>
    have hc := hA.cells hp
    cases hb : p.bell with
    | false =>
      simp [hA.head, look123 hA.map1, hA.some1 hp, hc, hb]
      refine callK_of (refused_calls 6 W) ?_
      rintro r w3 ⟨rfl, hu3⟩
      refine ⟨_, rfl, ?_⟩
      exact fin (o := refused 6) (hA.next.upd hu3) (by unfold PB.ring; rw [hp]; simp [hb])
    | true =>
      have hrow := hA.line i p hp
      obtain ⟨a0, c0, hv0⟩ := row_slice hrow
      simp [hA.head, look123 hA.map1, hA.some1 hp, hc, hb]
      refine callK_of (Len_calls (o := 1) hc (by rw [hv0]; rfl)) ?_
      rintro r w3 ⟨rfl, rfl⟩
      refine ⟨_, rfl, ?_⟩
      cases hl : p.line with
      | nil =>
        have hw := setWord hA hp (bor32 p.word badge)
        rw [hb] at hw hc
        simp [hc, b66p]
        exact fin (o := ⟨0, -1, .zero, false, false, false⟩) hw (by unfold PB.ring; rw [hp]; simp [hb, hl])
      | cons a l =>
        have h0 : (0 : Int) < ((a :: l).length : Nat) := by simp
        simp [-List.length_cons]
        refine callK_of (first59 hA hp hl) ?_
        rintro r w4 ⟨rfl, hn⟩
        refine ⟨_, rfl, ?_⟩
        simp [f135_0, b64, b66m]
        exact fin (o := ⟨0, a.th, .badge badge, false, false, false⟩) hn (by unfold PB.ring; rw [hp]; simp [hb, hl])

set_option maxRecDepth 100000 in
theorem Hear_calls (h : BusAt own w x S m1 m2 l1 c1 l2 c2 pb lv) (hq : ∀ i p, S.places i = some p → p.line.length < 1000000000) (i t : Int) (wt : Bool) :
    Calls Try.prog 67 #[.pointer (some ⟨x, 0, none⟩), .int .i64 i, .int .i64 t, .bool wt] w fun en w' => en = .returned (outV (S.hear i t wt).1) ∧ BusNext own w w' x (S.hear i t wt).2 := by
  apply vk67
  unfold vc67
  obtain ⟨W, hW, hu, f0, hs⟩ := one w (.cells zero66 66)
  have hA := h.upd hu
  simp only [opK_alloc_66, hW]
  have fin : ∀ {W' : World} {S' : PB} {o : Out}, BusNext own W W' x S' → (o, S') = S.hear i t wt → stn 11 (.pointer (some ⟨w.heap.size, 0, none⟩)) (outV o) W' fun _ w' => resK Try.prog [(.pointer (some ⟨w.heap.size, 0, none⟩), some 66)] w' fun v w' => v = outV (S.hear i t wt).1 ∧ BusNext own w w' x (S.hear i t wt).2 := fun hn e => by
    rw [← e]
    exact out_of h.lt hu f0 z66 (by omega) hn rfl
  refine callK_of (at104 hA i true t) ?_
  rintro r w2 ⟨rfl, rfl⟩
  refine ⟨_, rfl, ?_⟩
  rcases at_cases S i true t with ⟨e, hat, he⟩ | ⟨p, hat, hp, hb, hw⟩
  · simp [atV, hat, he]
    refine callK_of (refused_calls e w2) ?_
    rintro r w3 ⟨rfl, hu3⟩
    refine ⟨_, rfl, ?_⟩
    exact fin (hA.next.upd hu3) (by unfold PB.hear; rw [hat])
  have hc := hA.cells hp
  by_cases hz : p.word = 0
  · cases wt with
    | false =>
      simp [atV, hat, hc, hz]
      refine callK_of (refused_calls 17 w2) ?_
      rintro r w4 ⟨rfl, hu4⟩
      refine ⟨_, rfl, ?_⟩
      exact fin (o := refused 17) (hA.next.upd hu4) (by unfold PB.hear; rw [hat]; simp [hz])
    | true =>
      simp [atV, hat, hc, hz, b135]
      refine callK_of (wait107 hA hp (hq i p hp) ⟨t, 6, .zero⟩) ?_
      rintro r w4 ⟨rfl, hn⟩
      refine ⟨_, rfl, ?_⟩
      exact fin hn (by unfold PB.hear; rw [hat]; simp [hz])
  · obtain ⟨W6, hW6, hu6, k0, hs6⟩ := one w2 (.cells zero66 66)
    simp [atV, hat, hc, hz, b64, b66m, hW6]
    refine full66 k0 z66 ?_
    have hu7 := hu6.putB (b := w2.heap.size) (.inl (Nat.le_refl _)) (.cells (outCells ⟨0, -1, .badge p.word, false, false, false⟩).toArray 66 (0, 0))
    have k2 : (putB W6 w2.heap.size (.cells (outCells ⟨0, -1, .badge p.word, false, false, false⟩).toArray 66 (0, 0))).heap[w2.heap.size]? = some (.cells (outCells ⟨0, -1, .badge p.word, false, false, false⟩).toArray 66 (0, 0)) := putB_same (by omega) _
    have rdo := readN_full (outCells ⟨0, -1, .badge p.word, false, false, false⟩) (out_len _)
    generalize hoc : (outCells ⟨0, -1, .badge p.word, false, false, false⟩) = oc at *
    generalize putB W6 w2.heap.size (.cells oc.toArray 66 (0, 0)) = W7 at *
    have hB := hA.upd hu7
    have hsw := setWord hB hp 0
    have hplt := hA.in (hA.o_place i p hp)
    have k3 : ∀ o, (putB W7 (pb i) o).heap[w2.heap.size]? = some (.cells oc.toArray 66 (0, 0)) := fun o => (putB_other (by omega) _).trans k2
    simp [hB.cells hp, k3, rdo]
    have hfin := fin (o := ⟨0, -1, .badge p.word, false, false, false⟩) (hsw.before hu7) (by unfold PB.hear; rw [hat]; simp [hz])
    rw [show outV ⟨0, -1, .badge p.word, false, false, false⟩ = Value.agg oc.toArray by rw [← hoc]; rfl] at hfin
    simpa using hfin

set_option maxRecDepth 100000 in
theorem Cancel_calls (h : BusAt own w x S m1 m2 l1 c1 l2 c2 pb lv) (hwp : ∀ t i, S.wher t = some i → ∃ p, S.places i = some p) (t : Int) :
    Calls Try.prog 69 #[.pointer (some ⟨x, 0, none⟩), .int .i64 t] w fun en w' => en = .returned (.int .i64 (S.cancel t).1) ∧ BusNext own w w' x (S.cancel t).2 := by
  apply vk69
  unfold vc69
  obtain ⟨W, hW, hu, f0, hs⟩ := one w (.cells #[.int .i64 t] 3)
  have hA := h.upd hu
  have hA' := hA.upd ((Upd.refl _ W).drew)
  simp only [opK_box, cells_int', hW]
  unfold PB.cancel
  cases hw : S.wher t with
  | none =>
    simp [hA.head, f0, slook124 hA'.map2, hA.none2 hw]
    exact (hA.next.before hu).upd ((Upd.refl _ W).drew)
  | some i =>
    obtain ⟨p, hp⟩ := hwp t i hw
    simp only [hp]
    simp [hA.head, f0, slook124 hA'.map2, hA.some2 hw, look123 hA'.map1, hA.some1 hp]
    have hrow := hA'.line i p hp
    have hxp : (lv i).ownBlock ≠ some (pb i) := fun e => h.ne (h.o_line i p hp _ e) (h.o_place i p hp) (by simp) rfl
    have hxb : (lv i).ownBlock ≠ some w.heap.size := fun e => by have := h.in (h.o_line i p hp _ e); omega
    refine callK_of (drop112 (w := W.drew) (b := w.heap.size) f0 (hA'.cells hp) hrow (o := 1) rfl hxb hxp) ?_
    rintro r w2 ⟨rfl, v', g1, g2, g3, g4⟩
    refine ⟨_, rfl, ?_⟩
    have hB := hA'.setPlace (w' := w2) (own' := own) (p' := { p with line := others t p.line }) (v' := v') hp g1 g2 (fun b T hb h1 h2 => g3.old b (hA'.in hb) (by
      rintro (hc | hc)
      · rw [hA.o_line i p hp b hc] at hb; simp at hb; exact h2 hb.symm
      · rw [hc, hA.o_place i p hp] at hb; simp at hb; exact h1 hb.symm)) (fun _ _ h => h) (fun b hb => hA.o_line i p hp b (by rw [← g4]; exact hb)) (fun b hb => Nat.lt_of_lt_of_le (hA'.lt b hb) g3.size)
    have f02 : w2.heap[w.heap.size]? = some (.cells #[.int .i64 t] 3 (0, 0)) := (g3.old _ (by show w.heap.size < W.heap.size; omega) (by
      rintro (hc | hc)
      · exact hxb hc
      · have := h.in (h.o_place i p hp); omega)).trans f0
    have hB' := hB.upd ((Upd.refl _ w2).drew)
    simp [hB.head, f02, del124 hB'.map2]
    have hD := hB'.setWhere (w' := putB w2.drew m2 (.map (ents (mdel t l2)) c2)) (f := up S.wher t none) (l2' := mdel t l2) (c2' := c2) (putB_same (hB'.in hB'.o_m2) _) (mdel_nodup h.nd2 _) (fun u => by
        rw [mget_mdel h.nd2]
        by_cases e : u = t
        · subst e; simp
        · rw [if_neg e, up_other _ _ _ _ e, h.k2]) (fun b T hb hT => putB_other (h.ne hb h.o_m2 hT) _) (by simp)
    refine ⟨own, ⟨_, _, _, _, _, _, _, _, hD⟩, fun _ hb => .inl hb, ?_⟩
    refine Upd.putB (Upd.drew ((hu.mono fun _ f => f.elim).drew.trans (G := fun b => own b ≠ none) (g3.mono fun b hb => ?_) fun _ _ hh => hh)) (.inr (by rw [h.o_m2]; simp)) _
    rcases hb with hc | hc
    · rw [h.o_line i p hp b hc]; simp
    · rw [hc, h.o_place i p hp]; simp
end
end Go.Proofs.Ytaniphdbebdhhaa.Ipc
