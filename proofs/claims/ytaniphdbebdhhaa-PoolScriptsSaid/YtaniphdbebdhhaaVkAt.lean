/-
  Calls one after another on parts of memory. No condition beyond what each theorem names.
-/
import Derived.Test.YtaniphdbebdhhaaVkSep
namespace Go.Vk

/-- A call on a part, that gives back v a, for some a, and leaves B a. -/
def TriE (P : Program) (A : HP) (f : FuncId) (args : Array Value) {α : Type} (v : α → Value) (B : α → HP) : Prop := Tri P A f args fun en => Ex fun a => Pr (en = .returned (v a)) (B a)
section
variable {P : Program} {A : HP} {f : FuncId} {args : Array Value} {α : Type} {v : α → Value} {B : α → HP} {C : HP}
theorem TriE.frame (h : TriE P A f args v B) [Solid A] [Solid C] : TriE P (Sep A C) f args v fun a => Sep (B a) C :=
  Tri.conseq (Tri.frame h (B := C)) (fun _ _ h => h) fun _ _ _ ⟨G1, G2, ⟨a, he, h1⟩, h2, h3, h4⟩ => ⟨a, he, G1, G2, h1, h2, h3, h4⟩
theorem TriE.frameL (h : TriE P A f args v B) [Solid A] [Solid C] : TriE P (Sep C A) f args v fun a => Sep C (B a) :=
  Tri.conseq (Tri.frame h (B := C)) (fun _ _ h => h.comm) fun _ _ _ ⟨G1, G2, ⟨a, he, h1⟩, h2, h3, h4⟩ => ⟨a, he, Sep.comm ⟨G1, G2, h1, h2, h3, h4⟩⟩
theorem TriE.pre {A' : HP} (h : TriE P A f args v B) (ha : ∀ G w, A' G w → A G w) : TriE P A' f args v B := Tri.conseq h ha fun _ _ _ h => h
/-- A call that turns nothing. -/
theorem TriE.of_same [Solid A] {r : Value} (h : ∀ G w, A G w → Calls P f args w fun en w' => en = .returned r ∧ Upd (fun _ => False) w w') : TriE P A f args (fun _ : Unit => r) fun _ => A := fun G w h' =>
  (h G w h').mono fun _ _ ⟨h1, h2⟩ => ⟨G, ⟨(), h1, Solid.same h' h2⟩, Mv.only h2⟩
end

/-- A block with what it holds. -/
def Cell (b : Nat) (o : Obj) : HP := fun G w => w.heap[b]? = some o ∧ ∀ c, G c ↔ c = b
instance {b : Nat} {o : Obj} : Solid (Cell b o) where
  frame := fun ⟨h, hg⟩ hf _ => ⟨(hf b ((hg b).2 rfl)).trans h, hg⟩
  lt := by
    intro G w c ⟨h, hg⟩ hb
    have := (hg _).1 hb
    subst this
    exact blk_lt h

/-- From w0 on: now A holds of what has turned. -/
def At (G0 : Nat → Prop) (w0 : World) (A : HP) (w : World) : Prop := ∃ G, A G w ∧ Mv G0 G w0 w
section
variable {G0 : Nat → Prop} {w0 w w' : World} {A A' B : HP}
theorem At.start (h : A G0 w) : At G0 w A w := ⟨G0, h, Mv.refl _ _⟩
theorem At.mono (h : At G0 w0 A w) (k : ∀ G, A G w → A' G w) : At G0 w0 A' w :=
  let ⟨G, h1, h2⟩ := h
  ⟨G, k G h1, h2⟩
theorem At.upd [Solid A] (h : At G0 w0 A w) (hu : Upd (fun _ => False) w w') : At G0 w0 A w' :=
  let ⟨G, h1, h2⟩ := h
  ⟨G, Solid.same h1 hu, h2.after hu⟩
theorem At.drew [Solid A] (h : At G0 w0 A w) : At G0 w0 A w.drew := h.upd (Upd.refl _ _).drew
theorem At.drop (h : At G0 w0 (Sep A B) w) : At G0 w0 A w :=
  let ⟨_, ⟨G1, _, h1, _, _, h4⟩, h5⟩ := h
  ⟨G1, h1, fun b hb => h5.new b ((h4 b).2 (.inl hb)), h5.upd⟩
theorem At.dropL (h : At G0 w0 (Sep A B) w) : At G0 w0 B w := At.drop (h.mono fun _ h => h.comm)
theorem At.cell {b : Nat} {o : Obj} (h : At G0 w0 (Sep A (Cell b o)) w) : w.heap[b]? = some o :=
  let ⟨_, ⟨_, _, _, h2, _, _⟩, _⟩ := h
  h2.1
theorem At.new [Solid A] (h : At G0 w0 A w) (hu : Upd (fun _ => False) w w') {b : Nat} {o : Obj} (hb : w.heap.size ≤ b) (ho : w'.heap[b]? = some o) : At G0 w0 (Sep A (Cell b o)) w' := by
  obtain ⟨G, h1, h2⟩ := h
  refine ⟨fun c => G c ∨ c = b, ⟨G, fun c => c = b, Solid.same h1 hu, ⟨ho, fun _ => Iff.rfl⟩, fun c hc e => ?_, fun _ => Iff.rfl⟩, fun c hc => ?_, (h2.after hu).upd⟩
  · have := Solid.lt h1 hc; omega
  · rcases hc with hc | hc
    · exact h2.new c hc
    · have := h2.upd.size; exact .inr (by omega)
/-- A call on a part that is there. -/
theorem At.call {P : Program} {f : FuncId} {args : Array Value} {α : Type} {v : α → Value} {B : α → HP} (h : At G0 w0 A w) (t : TriE P A f args v B) {K : Value → World → Prop} (hK : ∀ a w', At G0 w0 (B a) w' → Upd (fun _ => True) w w' → K (v a) w') : callK P f args w K := by
  obtain ⟨G, h1, h2⟩ := h
  refine callK_of (t G w h1) ?_
  rintro en w' ⟨G', ⟨a, rfl, h3⟩, hm⟩
  exact ⟨_, rfl, hK a w' ⟨G', h3, h2.trans hm⟩ (hm.upd.mono fun _ _ => trivial)⟩
/-- A call that turns nothing. -/
theorem At.callU {P : Program} {f : FuncId} {args : Array Value} {r : Value} [Solid A] (h : At G0 w0 A w) (c : Calls P f args w fun en w' => en = .returned r ∧ Upd (fun _ => False) w w') {K : Value → World → Prop} (hK : ∀ w', At G0 w0 A w' → K r w') : callK P f args w K := by
  refine callK_of c ?_
  rintro en w' ⟨rfl, hu⟩
  exact ⟨_, rfl, hK w' (h.upd hu)⟩
theorem At.tri {P : Program} {A : HP} {f : FuncId} {args : Array Value} {α : Type} {v : α → Value} {B : α → HP} (h : ∀ G w, A G w → Calls P f args w fun en w' => ∃ a, en = .returned (v a) ∧ At G w (B a) w') : TriE P A f args v B := fun G w h' =>
  (h G w h').mono fun _ _ ⟨a, h1, G', h2, h3⟩ => ⟨G', ⟨a, h1, h2⟩, h3⟩
/-- Of four parts the last is put by the second, the first by the third. -/
theorem Sep.four {A B C D : HP} {G : Nat → Prop} {w : World} (h : Sep (Sep A B) (Sep C D) G w) : Sep (Sep D B) (Sep A C) G w := by
  obtain ⟨Gab, Gcd, ⟨a, b, ha, hb, hab, eab⟩, ⟨c, d, hc, hd, hcd, ecd⟩, hx, e⟩ := h
  refine ⟨fun x => d x ∨ b x, fun x => a x ∨ c x, ⟨d, b, hd, hb, fun x h1 h2 => hx x ((eab x).2 (.inr h2)) ((ecd x).2 (.inr h1)), fun _ => Iff.rfl⟩, ⟨a, c, ha, hc, fun x h1 h2 => hx x ((eab x).2 (.inl h1)) ((ecd x).2 (.inl h2)), fun _ => Iff.rfl⟩, fun x h1 h2 => ?_, fun x => ?_⟩
  · rcases h1 with h1 | h1 <;> rcases h2 with h2 | h2
    · exact hx x ((eab x).2 (.inl h2)) ((ecd x).2 (.inr h1))
    · exact hcd x h2 h1
    · exact hab x h2 h1
    · exact hx x ((eab x).2 (.inr h1)) ((ecd x).2 (.inl h2))
  · rw [e, eab, ecd]
    constructor
    · rintro ((h | h) | (h | h))
      · exact .inr (.inl h)
      · exact .inl (.inr h)
      · exact .inr (.inr h)
      · exact .inl (.inl h)
    · rintro ((h | h) | (h | h))
      · exact .inr (.inr h)
      · exact .inl (.inr h)
      · exact .inl (.inl h)
      · exact .inr (.inl h)
end
end Go.Vk
