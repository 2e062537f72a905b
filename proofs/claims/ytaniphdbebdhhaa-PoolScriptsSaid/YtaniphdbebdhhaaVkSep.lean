/-
  Parts of memory: what holds of a part, parts side by side, calls on a part. Ranges over maps. No condition.
-/
import Derived.Test.YtaniphdbebdhhaaVkCl
import Derived.Maps.RangeRun
namespace Go.Vk

/-- From one memory to the next: the part that something holds of has turned, grown by new blocks. -/
structure Mv (G G' : Nat → Prop) (w w' : World) : Prop where
  new : ∀ b, G' b → G b ∨ w.heap.size ≤ b
  upd : Upd G w w'
theorem Mv.refl (G : Nat → Prop) (w : World) : Mv G G w w := ⟨fun _ h => .inl h, Upd.refl _ _⟩
theorem Mv.trans {G G' G'' : Nat → Prop} {w w' w'' : World} (h : Mv G G' w w') (k : Mv G' G'' w' w'') : Mv G G'' w w'' :=
  ⟨fun b hb => (k.new b hb).elim (h.new b) fun e => .inr (Nat.le_trans h.upd.size e), h.upd.trans k.upd fun x hx hg => (h.new x hg).elim id fun e => absurd e (by omega)⟩
theorem Mv.after {G G' : Nat → Prop} {w w' w'' : World} (h : Mv G G' w w') (k : Upd (fun _ => False) w' w'') : Mv G G' w w'' :=
  ⟨h.new, h.upd.trans k fun _ _ f => f.elim⟩
theorem Mv.before {G G' : Nat → Prop} {w w' w'' : World} (k : Upd (fun _ => False) w w') (h : Mv G G' w' w'') : Mv G G' w w'' :=
  ⟨fun b hb => (h.new b hb).imp id fun e => Nat.le_trans k.size e, (k.mono fun _ f => f.elim).trans h.upd fun _ _ g => g⟩
theorem Mv.only {G : Nat → Prop} {w w' : World} (k : Upd (fun _ => False) w w') : Mv G G w w' := (Mv.refl G w).after k

abbrev HP := (Nat → Prop) → World → Prop
class Solid (A : HP) : Prop where
  frame : ∀ {G : Nat → Prop} {w w' : World}, A G w → (∀ b, G b → w'.heap[b]? = w.heap[b]?) → w.heap.size ≤ w'.heap.size → A G w'
  lt : ∀ {G : Nat → Prop} {w : World} {b : Nat}, A G w → G b → b < w.heap.size
theorem Solid.upd {A : HP} [Solid A] {G F : Nat → Prop} {w w' : World} (h : A G w) (hu : Upd F w w') (hF : ∀ b, F b → ¬ G b) : A G w' :=
  Solid.frame h (fun b hb => hu.old b (Solid.lt h hb) fun f => hF b f hb) hu.size
theorem Solid.same {A : HP} [Solid A] {G : Nat → Prop} {w w' : World} (h : A G w) (hu : Upd (fun _ => False) w w') : A G w' := Solid.upd h hu fun _ f => f.elim

/-- Two parts side by side. -/
def Sep (A B : HP) : HP := fun G w => ∃ G1 G2, A G1 w ∧ B G2 w ∧ (∀ b, G1 b → ¬ G2 b) ∧ ∀ b, G b ↔ G1 b ∨ G2 b
instance {A B : HP} [Solid A] [Solid B] : Solid (Sep A B) where
  frame := fun ⟨G1, G2, h1, h2, h3, h4⟩ hf hs => ⟨G1, G2, Solid.frame h1 (fun b hb => hf b ((h4 b).2 (.inl hb))) hs, Solid.frame h2 (fun b hb => hf b ((h4 b).2 (.inr hb))) hs, h3, h4⟩
  lt := fun ⟨_, _, h1, h2, _, h4⟩ hb => ((h4 _).1 hb).elim (Solid.lt h1) (Solid.lt h2)
theorem Sep.comm {A B : HP} {G : Nat → Prop} {w : World} (h : Sep A B G w) : Sep B A G w :=
  let ⟨G1, G2, h1, h2, h3, h4⟩ := h
  ⟨G2, G1, h2, h1, fun b h h' => h3 b h' h, fun b => (h4 b).trans Or.comm⟩
theorem Sep.assoc {A B C : HP} {G : Nat → Prop} {w : World} (h : Sep (Sep A B) C G w) : Sep A (Sep B C) G w := by
  obtain ⟨G12, G3, ⟨G1, G2, h1, h2, h3, h4⟩, h5, h6, h7⟩ := h
  refine ⟨G1, fun b => G2 b ∨ G3 b, h1, ⟨G2, G3, h2, h5, fun b hb => h6 b ((h4 b).2 (.inr hb)), fun _ => Iff.rfl⟩, fun b hb hn => ?_, fun b => ?_⟩
  · rcases hn with hn | hn
    · exact h3 b hb hn
    · exact h6 b ((h4 b).2 (.inl hb)) hn
  · rw [h7, h4, or_assoc]
theorem Sep.assoc' {A B C : HP} {G : Nat → Prop} {w : World} (h : Sep A (Sep B C) G w) : Sep (Sep A B) C G w := by
  obtain ⟨G1, G23, h1, ⟨G2, G3, h2, h3, h4, h5⟩, h6, h7⟩ := h
  refine ⟨fun b => G1 b ∨ G2 b, G3, ⟨G1, G2, h1, h2, fun b hb hn => h6 b hb ((h5 b).2 (.inl hn)), fun _ => Iff.rfl⟩, h3, fun b hb hn => ?_, fun b => ?_⟩
  · rcases hb with hb | hb
    · exact h6 b hb ((h5 b).2 (.inr hn))
    · exact h4 b hb hn
  · rw [h7, h5, or_assoc]
theorem Sep.mono {A A' B B' : HP} {G : Nat → Prop} {w : World} (h : Sep A B G w) (ha : ∀ G, A G w → A' G w) (hb : ∀ G, B G w → B' G w) : Sep A' B' G w :=
  let ⟨G1, G2, h1, h2, h3, h4⟩ := h
  ⟨G1, G2, ha _ h1, hb _ h2, h3, h4⟩
/-- Something, and that there is such a thing. -/
def Ex {α : Type} (A : α → HP) : HP := fun G w => ∃ a, A a G w
instance {α : Type} {A : α → HP} [∀ a, Solid (A a)] : Solid (Ex A) where
  frame := fun ⟨a, h⟩ hf hs => ⟨a, Solid.frame h hf hs⟩
  lt := fun ⟨_, h⟩ hb => Solid.lt h hb
def Pr (p : Prop) (A : HP) : HP := fun G w => p ∧ A G w
instance {p : Prop} {A : HP} [Solid A] : Solid (Pr p A) where
  frame := fun ⟨hp, h⟩ hf hs => ⟨hp, Solid.frame h hf hs⟩
  lt := fun ⟨_, h⟩ hb => Solid.lt h hb
/-- Nothing. -/
def Emp : HP := fun G _ => ∀ b, ¬ G b
instance : Solid Emp where
  frame := fun h _ _ => h
  lt := fun h hb => (h _ hb).elim
theorem Sep.emp {A : HP} {G : Nat → Prop} {w : World} (h : A G w) : Sep A Emp G w := ⟨G, fun _ => False, h, fun _ f => f, fun _ _ f => f, fun b => by simp⟩
theorem Sep.noEmp {A : HP} [Solid A] {G : Nat → Prop} {w : World} (h : Sep A Emp G w) : ∃ G', A G' w ∧ ∀ b, G b ↔ G' b := by
  obtain ⟨G1, G2, h1, h2, _, h4⟩ := h
  exact ⟨G1, h1, fun b => ⟨fun hb => ((h4 b).1 hb).elim id fun x => (h2 b x).elim, fun hb => (h4 b).2 (.inl hb)⟩⟩
/-- A row that nobody else has. -/
def Row (e z : Nat) (v : Value) (n : Nat) (xs : List Value) : HP := fun G w => w.ownsRow 0 e z v n xs ∧ ∀ b, G b ↔ v.ownBlock = some b
instance {e z : Nat} {v : Value} {n : Nat} {xs : List Value} : Solid (Row e z v n xs) where
  frame := fun ⟨h, hg⟩ hf _ => ⟨row_keep h fun g hgg => hf g ((hg g).2 hgg), hg⟩
  lt := fun ⟨h, hg⟩ hb => row_lt h ((hg _).1 hb)

/-- A call on a part. -/
def Tri (P : Program) (A : HP) (f : FuncId) (args : Array Value) (Q : Ending → HP) : Prop :=
  ∀ G w, A G w → Calls P f args w fun en w' => ∃ G', Q en G' w' ∧ Mv G G' w w'
section
variable {P : Program} {A B : HP} {f : FuncId} {args : Array Value} {Q : Ending → HP}
theorem Tri.frame (h : Tri P A f args Q) [Solid A] [Solid B] : Tri P (Sep A B) f args fun en => Sep (Q en) B := by
  rintro G w ⟨G1, G2, h1, h2, h3, h4⟩
  refine (h G1 w h1).mono ?_
  rintro en w' ⟨G1', hq, hm⟩
  refine ⟨fun b => G1' b ∨ G2 b, ⟨G1', G2, hq, Solid.upd h2 hm.upd h3, fun b hb hb2 => ?_, fun _ => Iff.rfl⟩, fun b hb => ?_, hm.upd.mono fun b hb => (h4 b).2 (.inl hb)⟩
  · rcases hm.new b hb with e | e
    · exact h3 b e hb2
    · have := Solid.lt h2 hb2; omega
  · rcases hb with hb | hb
    · exact (hm.new b hb).imp (fun e => (h4 b).2 (.inl e)) id
    · exact .inl ((h4 b).2 (.inr hb))
theorem Tri.conseq {A' : HP} {Q' : Ending → HP} (h : Tri P A f args Q) (ha : ∀ G w, A' G w → A G w) (hq : ∀ en G w, Q en G w → Q' en G w) : Tri P A' f args Q' := fun G w h' =>
  (h G w (ha G w h')).mono fun _ _ ⟨G', h1, h2⟩ => ⟨G', hq _ _ _ h1, h2⟩
theorem Tri.frameL (h : Tri P A f args Q) [Solid A] [Solid B] : Tri P (Sep B A) f args fun en => Sep B (Q en) :=
  (h.frame (B := B)).conseq (fun _ _ h => h.comm) fun _ _ _ h => h.comm
theorem Tri.of_same {R : Ending → Prop} [Solid A] (h : ∀ G w, A G w → Calls P f args w fun en w' => R en ∧ Upd (fun _ => False) w w') : Tri P A f args fun en => Pr (R en) A := fun G w h' =>
  (h G w h').mono fun _ _ ⟨h1, h2⟩ => ⟨G, ⟨h1, Solid.same h' h2⟩, Mv.only h2⟩
end

@[simp ↓] theorem opK_extract1_0 {P : Program} (v : Value) (ty : TypeId) (w : World) (K : Value → World → Prop) : opK P (.extract (.const (.tuple #[v])) 0) ty w K = K v w := opK_of rfl rfl

/-! ### s[lo:hi] -/
theorem run_slice2 {P : Program} {T e z : Nat} {i : TypeInfo} (hT : P.underlying T = some (.slice e)) (hi : P.info? e = some i) (hsz : i.size = z) {g n cap : Nat} {k k2 : IntKind} {lo h : Int} (h0 : 0 ≤ lo) (h1 : lo ≤ h) (h2 : h ≤ cap) (hc : cap ≠ lo.toNat) (ty : TypeId) (w : World) :
    (execOp bare { dst := none, op := .slice T (.const (.slice (some ⟨g, 0, none⟩) n cap)) (some (.const (.int k lo))) (some (.const (.int k2 h))) none, type := ty, pos := "", after := #[], guard := none }).run P w =
      .ok (.value (.slice (some ⟨g, lo.toNat * z, none⟩) (h.toNat - lo.toNat) (cap - lo.toNat))) w := by
  subst hsz
  have h3 : 0 ≤ h := by omega
  simp [execOp, bare, Act.eval, Instr.sliceAt, Instr.slice, underlying, hT, Instr.sliceBounds, Instr.sliceBound, asIntOf, h0, h2, h3, sizeOf, typeInfo, hi, hc, add_off]
  intro hh
  omega

/-! ### Ranges over maps whose keys are ints -/
/-- Each entry has its own birth, ahead of the clock. -/
def Tidy (l : List Ent3) (c : Nat) : Prop := (∀ p ∈ l, p.2.2 < c) ∧ (l.map (·.2.2)).Nodup
theorem mset_born (t : Int) (v : Value) : ∀ (l : List Ent3), (mset t v l).map (·.2.2) = l.map (·.2.2)
  | [] => rfl
  | p :: l => by
    unfold mset
    split
    · rfl
    · simp [mset_born t v l]
theorem Tidy.put {l : List Ent3} {c : Nat} (h : Tidy l c) (t : Int) (v : Value) : Tidy (mput l c t v) (mclk l c t) := by
  unfold mput mclk
  split
  · refine ⟨fun p hp => ?_, by rw [mset_born]; exact h.2⟩
    have : p.2.2 ∈ (mset t v l).map (·.2.2) := List.mem_map.2 ⟨p, hp, rfl⟩
    rw [mset_born] at this
    obtain ⟨q, hq, e⟩ := List.mem_map.1 this
    rw [← e]; exact h.1 q hq
  · refine ⟨fun p hp => ?_, ?_⟩
    · rcases List.mem_append.1 hp with hp | hp
      · have := h.1 p hp; omega
      · simp at hp; subst hp; simp
    · rw [List.map_append, List.nodup_append]
      refine ⟨h.2, by simp, fun a ha b hb => ?_⟩
      simp at hb; subst hb
      obtain ⟨q, hq, rfl⟩ := List.mem_map.1 ha
      have := h.1 q hq; omega
theorem Tidy.del {l : List Ent3} {c : Nat} (h : Tidy l c) (t : Int) : Tidy (mdel t l) c :=
  ⟨fun p hp => h.1 p ((mdel_sub t l).subset hp), h.2.sublist ((mdel_sub t l).map _)⟩
theorem Tidy.nil (c : Nat) : Tidy [] c := ⟨by simp, by simp⟩

/-- A range under way: over the map m, these births have been seen. -/
def Ranging (w : World) (r m : Nat) (l : List Ent3) (seen : Array Nat) : Prop :=
  ∃ since c, w.heap[r]? = some (.mapIter (some m) since seen c) ∧ w.heap[m]? = some (.map (ents l) c) ∧ (∀ p ∈ l, p.2.2 < since) ∧ since ≤ c ∧ (l.map (·.2.2)).Nodup
def todo (l : List Ent3) (seen : Array Nat) : Nat := (l.filter fun p => !seen.contains p.2.2).length
theorem todo_lt {l : List Ent3} {seen : Array Nat} {p : Ent3} (hp : p ∈ l) (hs : p.2.2 ∉ seen) : todo l (seen.push p.2.2) < todo l seen := by
  unfold todo
  refine Go.filter_lt _ _ (fun x hx => ?_) p ?_ ?_ l hp
  · simp at hx ⊢; exact fun h => hx.1 h
  · simpa using hs
  · simp
theorem Ranging.keep {w w' : World} {r m : Nat} {l : List Ent3} {seen : Array Nat} (h : Ranging w r m l seen) (hr : w'.heap[r]? = w.heap[r]?) (hm : w'.heap[m]? = w.heap[m]?) : Ranging w' r m l seen := by
  obtain ⟨since, c, h1, h2, h3⟩ := h
  exact ⟨since, c, hr.trans h1, hm.trans h2, h3⟩
theorem Ranging.ne {w : World} {r m : Nat} {l : List Ent3} {seen : Array Nat} (h : Ranging w r m l seen) : m ≠ r := by
  rintro rfl
  obtain ⟨since, c, h1, h2, _⟩ := h
  rw [h1] at h2; simp at h2
theorem Ranging.lt {w : World} {r m : Nat} {l : List Ent3} {seen : Array Nat} (h : Ranging w r m l seen) : r < w.heap.size ∧ m < w.heap.size := by
  obtain ⟨since, c, h1, h2, _⟩ := h
  exact ⟨blk_lt h1, blk_lt h2⟩

section
variable {P : Program} {T K E : TypeId}
theorem opK_range (hT : P.underlying T = some (.map K E)) {w : World} {m : Nat} {l : List Ent3} {c : Nat} (h : w.heap[m]? = some (.map (ents l) c)) (ht : Tidy l c) (ty : TypeId) {K' : Value → World → Prop}
    (hK : ∀ w', Ranging w' w.heap.size m l #[] → Upd (fun _ => False) w w' → w'.heap.size = w.heap.size + 1 → K' (.pointer (some ⟨w.heap.size, 0, none⟩)) w') : opK P (.range T (.const (.map (some m)))) ty w K' := by
  have hm : m < w.heap.size := blk_lt h
  have hr : (execOp bare { dst := none, op := .range T (.const (.map (some m))), type := ty, pos := "", after := #[], guard := none }).run P w = .ok (.value (.pointer (some ⟨w.heap.size, 0, none⟩))) (w.alloc (.mapIter (some m) c #[] c)) := by
    have := run_range_map w T K E m (ents l) c hT h
    simp [execOp, bare, Act.eval, this]
  show runK P K' _
  rw [hr]
  exact hK _ ⟨c, c, heap_alloc_new _ _, (heap_alloc_old w _ hm).trans h, ht.1, Nat.le_refl _, ht.2⟩ ((Upd.refl _ w).alloc _) (by simp)

theorem opK_next {w : World} {r m : Nat} {l : List Ent3} {seen : Array Nat} (h : Ranging w r m l seen) (ty : TypeId) {K' : Value → World → Prop}
    (h0 : (∀ p ∈ l, p.2.2 ∈ seen) → K' (.tuple #[.bool false]) w)
    (h1 : ∀ p ∈ l, p.2.2 ∉ seen → ∀ w', Ranging w' r m l (seen.push p.2.2) → Upd (fun b => b = r) w w' → w'.heap.size = w.heap.size → K' (.tuple #[.bool true, .int .i64 p.1, p.2.1]) w') :
    opK P (.next (.const (.pointer (some ⟨r, 0, none⟩))) false) ty w K' := by
  have hne := h.ne
  obtain ⟨since, c, hr, hm, hb, hsc, hnd⟩ := h
  have hb' : ∀ x ∈ (ents l).toList, x.born < since := fun x hx => by
    simp only [ents, List.mem_map] at hx
    obtain ⟨p, hp, rfl⟩ := hx
    exact hb p hp
  show runK P K' _
  rcases run_next_at (P := P) w ty r m since c seen (ents l) c hr hm hb' hsc with ⟨hz, hrun⟩ | ⟨e, he, w1, hw1, hrun⟩
  · have : (execOp bare { dst := none, op := .next (.const (.pointer (some ⟨r, 0, none⟩))) false, type := ty, pos := "", after := #[], guard := none }).run P w = .ok (.value (.tuple #[.bool false])) w := by
      simp [execOp, bare, Act.eval, hrun]
    rw [this]
    refine h0 fun p hp => ?_
    have hnil : leftOf (ents l) seen = #[] := Array.eq_empty_of_size_eq_zero hz
    unfold leftOf at hnil
    rw [Array.filter_eq_empty_iff] at hnil
    have := hnil (a := ent p) (by simp [ents]; exact ⟨_, _, _, hp, rfl⟩)
    simpa [ent] using this
  · have hrun' : (execOp bare { dst := none, op := .next (.const (.pointer (some ⟨r, 0, none⟩))) false, type := ty, pos := "", after := #[], guard := none }).run P w =
        .ok (.value (.tuple #[.bool true, e.key, e.val])) (ChangeMaps.setBlock w1 r (.mapIter (some m) since (seen.push e.born) c)) := by
      simp [execOp, bare, Act.eval, hrun]
    rw [hrun']
    simp only [leftOf, Array.toList_filter, List.mem_filter, ents, List.mem_map] at he
    obtain ⟨⟨p, hp, rfl⟩, hs⟩ := he
    have hrlt : r < w1.heap.size := by rcases hw1 with rfl | rfl <;> exact blk_lt hr
    have hwe : ∀ b : Nat, w1.heap[b]? = w.heap[b]? := fun b => by rcases hw1 with rfl | rfl <;> rfl
    have hsb : ∀ o, ChangeMaps.setBlock w1 r o = putB w1 r o := fun _ => rfl
    rw [hsb]
    refine h1 p hp (by simpa [ent] using hs) _ ⟨since, c, putB_same hrlt _, (putB_other hne _).trans ((hwe m).trans hm), hb, hsc, hnd⟩ ?_ ?_
    · refine Upd.putB (F := fun b => b = r) ?_ (.inr rfl) _
      rcases hw1 with rfl | rfl
      · exact Upd.refl _ _
      · exact (Upd.refl _ _).drew
    · rw [size_putB]; rcases hw1 with rfl | rfl <;> rfl

theorem opK_entry {w : World} {r m : Nat} {l : List Ent3} {seen : Array Nat} {p : Ent3} (h : Ranging w r m l (seen.push p.2.2)) (hp : p ∈ l) (ty : TypeId) (K' : Value → World → Prop) :
    opK P (.entry (.const (.pointer (some ⟨r, 0, none⟩)))) ty w K' = K' (.tuple #[.int .i64 p.1, p.2.1]) w := by
  obtain ⟨since, c, hr, hm, hb, hsc, hnd⟩ := h
  have := run_entry_at (P := P) w r m since seen (ents l) c (ent p) hr hm (by simp [ents]; exact ⟨_, _, _, hp, rfl⟩) (by simpa [ents, ent, Function.comp_def] using hnd)
  refine opK_of (v := .tuple #[.int .i64 p.1, p.2.1]) ?_ rfl
  simp [execOp, bare, Act.eval, this]
  exact ⟨rfl, rfl⟩
end
end Go.Vk
