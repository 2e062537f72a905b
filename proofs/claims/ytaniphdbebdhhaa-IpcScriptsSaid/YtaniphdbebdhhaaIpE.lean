/-
  Outcomes compared; the law's messageOf; both buses and the books in one memory; the law's lines. No condition.
-/
import Derived.Test.YtaniphdbebdhhaaIpC
import Derived.Test.YtaniphdbebdhhaaIpD
import Derived.ChangeKeysEq
namespace Go.Proofs.Ytaniphdbebdhhaa.Ipc
open Go.Vk Vk.Ipc

/-! ### Equal to itself -/
theorem eqFields_refl {P : Program} (d : Nat) (xs : Array Value) : ∀ (fs : List Field), (∀ f ∈ fs, ∃ v, (∀ w, (part f.type xs f.offset).run P w = .ok v w) ∧ (∀ w, (Op.equalIn d f.type v v).run P w = .ok true w)) → ∀ w, (Op.eqFields d xs xs fs).run P w = .ok true w
  | [], _, w => by simp [Op.eqFields]
  | f :: fs, h, w => by
    obtain ⟨v, h1, h2⟩ := h f (by simp)
    have ih := eqFields_refl d xs fs fun g hg => h g (List.mem_cons_of_mem _ hg)
    simp [Op.eqFields, h1, h2, ih]
theorem eqItems_refl {P : Program} (d : Nat) (e : TypeId) (c : Nat) (xs : Array Value) : ∀ (is : List Nat), (∀ i ∈ is, ∃ v, (∀ w, (part e xs (i * c)).run P w = .ok v w) ∧ (∀ w, (Op.equalIn d e v v).run P w = .ok true w)) → ∀ w, (Op.eqItems d e c xs xs is).run P w = .ok true w
  | [], _, w => by simp [Op.eqItems]
  | i :: is, h, w => by
    obtain ⟨v, h1, h2⟩ := h i (by simp)
    have ih := eqItems_refl d e c xs is fun g hg => h g (List.mem_cons_of_mem _ hg)
    simp [Op.eqItems, h1, h2, ih]

theorem eqi {t : TypeId} {k : IntKind} (h : Try.prog.underlying t = some (.int k)) (d : Nat) (x : Int) (w : World) : (Op.equalIn (d + 1) t (.int k x) (.int k x)).run Try.prog w = .ok true w := by
  rw [run_equalIn_int w d t k k x x h]; simp
theorem eqb (d : Nat) (x : Bool) (w : World) : (Op.equalIn (d + 1) 4 (.bool x) (.bool x)).run Try.prog w = .ok true w := by
  rw [run_equalIn_bool' w d 4 x x (by kernel_rfl)]; simp

theorem eq62 (d : Nat) (a b c e : Int) (w : World) : (Op.equalIn (d + 2) 62 (.agg #[.int .u32 a, .int .u32 b, .int .u32 c, .int .u32 e]) (.agg #[.int .u32 a, .int .u32 b, .int .u32 c, .int .u32 e])).run Try.prog w = .ok true w := by
  have hu : Try.prog.underlying 62 = some (.array 4 61) := by kernel_rfl
  obtain ⟨i, hi⟩ : ∃ i, Try.prog.info? 61 = some i := by
    cases h : Try.prog.info? 61 with
    | some i => exact ⟨i, rfl⟩
    | none => have h2 : (Try.prog.info? 61).isSome = true := by kernel_rfl
              rw [h] at h2; cases h2
  rw [run_equalIn_array w (d + 1) _ _ hu hi]
  have hc : Try.prog.cellsOf 61 = 1 := by kernel_rfl
  have h61 : Try.prog.underlying 61 = some (.int .u32) := by kernel_rfl
  refine eqItems_refl _ _ _ _ _ (fun i hi => ?_) w
  rw [hc]
  simp at hi
  have : i = 0 ∨ i = 1 ∨ i = 2 ∨ i = 3 := by omega
  rcases this with rfl | rfl | rfl | rfl
  · exact ⟨.int .u32 a, fun w => by kernel_rfl, eqi h61 d a⟩
  · exact ⟨.int .u32 b, fun w => by kernel_rfl, eqi h61 d b⟩
  · exact ⟨.int .u32 c, fun w => by kernel_rfl, eqi h61 d c⟩
  · exact ⟨.int .u32 e, fun w => by kernel_rfl, eqi h61 d e⟩

theorem eq64 (d : Nat) (m : Msg) (w : World) : (Op.equalIn (d + 3) 64 (mV m) (mV m)).run Try.prog w = .ok true w := by
  have hu : Try.prog.underlying 64 = some (.struct (Try.prog.fieldsOf 64)) := by kernel_rfl
  have hs : Try.prog.stoodInHeld 64 = false := by kernel_rfl
  have hf : ((Try.prog.fieldsOf 64).toList.map fun f => (f.type, f.offset)) = [(61, 0), (62, 1), (61, 5)] := by kernel_rfl
  have h61 : Try.prog.underlying 61 = some (.int .u32) := by kernel_rfl
  unfold mV
  rw [run_equalIn_struct w (d + 2) 64 _ _ hu hs]
  refine eqFields_refl _ _ _ (fun f hfm => ?_) w
  have hm : (f.type, f.offset) ∈ [((61 : Nat), 0), (62, 1), (61, 5)] := by rw [← hf]; exact List.mem_map.2 ⟨f, hfm, rfl⟩
  simp at hm
  rcases hm with ⟨h1, h2⟩ | ⟨h1, h2⟩ | ⟨h1, h2⟩ <;> rw [h1, h2]
  · exact ⟨.int .u32 m.a, fun w => by kernel_rfl, eqi h61 (d + 1) m.a⟩
  · exact ⟨.agg #[.int .u32 m.b, .int .u32 m.c, .int .u32 m.d, .int .u32 m.e], fun w => by kernel_rfl, eq62 d _ _ _ _⟩
  · exact ⟨.int .u32 m.f, fun w => by kernel_rfl, eqi h61 (d + 1) m.f⟩

theorem eq66 (d : Nat) (o : Out) (w : World) : (Op.equalIn (d + 4) 66 (outV o) (outV o)).run Try.prog w = .ok true w := by
  have hu : Try.prog.underlying 66 = some (.struct (Try.prog.fieldsOf 66)) := by kernel_rfl
  have hs : Try.prog.stoodInHeld 66 = false := by kernel_rfl
  have hf : ((Try.prog.fieldsOf 66).toList.map fun f => (f.type, f.offset)) = [(28, 0), (3, 1), (64, 2), (4, 8), (4, 9), (4, 10)] := by kernel_rfl
  have h28 : Try.prog.underlying 28 = some (.int .i64) := by kernel_rfl
  unfold outV
  rw [run_equalIn_struct w (d + 3) 66 _ _ hu hs]
  refine eqFields_refl _ _ _ (fun f hfm => ?_) w
  have hm : (f.type, f.offset) ∈ [((28 : Nat), 0), (3, 1), (64, 2), (4, 8), (4, 9), (4, 10)] := by rw [← hf]; exact List.mem_map.2 ⟨f, hfm, rfl⟩
  simp at hm
  rcases hm with ⟨h1, h2⟩ | ⟨h1, h2⟩ | ⟨h1, h2⟩ | ⟨h1, h2⟩ | ⟨h1, h2⟩ | ⟨h1, h2⟩ <;> rw [h1, h2]
  · exact ⟨.int .i64 o.err, fun w => by kernel_rfl, eqi h28 (d + 2) o.err⟩
  · exact ⟨.int .i64 o.peer, fun w => by kernel_rfl, eqi under3 (d + 2) o.peer⟩
  · exact ⟨mV o.m, fun w => by kernel_rfl, eq64 d o.m⟩
  · exact ⟨.bool o.waits, fun w => by kernel_rfl, eqb (d + 2) o.waits⟩
  · exact ⟨.bool o.asks, fun w => by kernel_rfl, eqb (d + 2) o.asks⟩
  · exact ⟨.bool o.fault, fun w => by kernel_rfl, eqb (d + 2) o.fault⟩

theorem opK_eq66 (o : Out) (ty : TypeId) (w : World) (K : Value → World → Prop) : opK Try.prog (.binOp .eql 66 (.const (outV o)) (.const (outV o)) 66) ty w K = K (.bool true) w := by
  refine opK_of ?_ rfl
  have h : Try.prog.eqGuardType Try.prog.depth 66 = false := by kernel_rfl
  obtain ⟨k, hk⟩ : ∃ k, Op.maxDepth = k + 4 := ⟨Op.maxDepth - 4, by decide⟩
  have he := eq66 k o w
  have hb : binOp .eql 66 (outV o) (outV o) = (Op.equal 66 (outV o) (outV o) >>= fun r => Pure.pure (Value.bool r)) := rfl
  have hg : (eqGuard .eql 66 (.const (outV o)) (.const (outV o)) (outV o) (outV o)).run Try.prog w = .ok () w := by
    unfold outV
    simp [eqGuard, h]
  simp only [execOp, bare, Act.eval, Sem.run_bind, hg, Result.andThen_ok, hb, Op.equal, hk, he, Sem.run_pure]

/-! ### messageOf -/
theorem shr_u32 (x : Int) : ∃ r : Int, ∀ (ty : TypeId) (w : World) (K : Value → World → Prop), opK Try.prog (.binOp .shr 61 (.const (.int .u32 x)) (.const (.int .u64 3)) 194) ty w K = K (.int .u32 r) w := by
  refine ⟨x.fdiv (2 ^ 3), fun ty w K => opK_of ?_ rfl⟩
  have hb : min 3 (IntKind.bits .u32) = 3 := by decide
  simp [execOp, bare, Act.eval, eqGuard, binOp, Op.shift, hb]
theorem xor_u32 (x y : Int) : ∃ r : Int, ∀ (ty : TypeId) (w : World) (K : Value → World → Prop), opK Try.prog (.binOp .xor 61 (.const (.int .u32 x)) (.const (.int .u32 y)) 61) ty w K = K (.int .u32 r) w := by
  refine ⟨IntKind.u32.wrap (BitVec.ofInt 32 x ^^^ BitVec.ofInt 32 y).toNat, fun ty w K => opK_of ?_ rfl⟩
  simp [execOp, bare, Act.eval, eqGuard, binOp, Op.intBits]
  rfl
theorem b62 (a b c d : Int) (ty : TypeId) (w : World) (K : Value → World → Prop) : opK Try.prog (.build 62 #[(0, .const (.int .u32 a)), (1, .const (.int .u32 b)), (2, .const (.int .u32 c)), (3, .const (.int .u32 d))]) ty w K = K (.agg #[.int .u32 a, .int .u32 b, .int .u32 c, .int .u32 d]) w := opK_of (by kernel_rfl) rfl
theorem b64f (a b c d e f : Int) (ty : TypeId) (w : World) (K : Value → World → Prop) : opK Try.prog (.build 64 #[(0, .const (.int .u32 a)), (1, .const (.agg #[.int .u32 b, .int .u32 c, .int .u32 d, .int .u32 e])), (2, .const (.int .u32 f))]) ty w K = K (mV ⟨a, b, c, d, e, f⟩) w := opK_of (by kernel_rfl) rfl
theorem lies64 : lies Try.prog 64 = some (some 6) := by kernel_rfl
theorem z64 : zero64.size = 6 := by kernel_rfl
theorem m_one (x : Msg) : (mCells x).all Value.oneCell' = true := rfl

set_option maxRecDepth 100000 in
theorem messageOf_ex (n : Int) : ∃ m : Msg, ∀ w : World, Calls Try.prog 62 #[.int .i64 n] w fun en w' => en = .returned (mV m) ∧ Upd (fun _ => False) w w' := by
  obtain ⟨r1, hr1⟩ := shr_u32 (IntKind.u32.wrap n)
  obtain ⟨r2, hr2⟩ := xor_u32 (IntKind.u32.wrap n) 7
  refine ⟨⟨IntKind.u32.wrap n, IntKind.u32.wrap (IntKind.u32.wrap n + 1), IntKind.u32.wrap (IntKind.u32.wrap n * 3), r2, r1, (IntKind.u32.wrap n).tmod 5⟩, fun w => ?_⟩
  apply vk62
  unfold vc62
  obtain ⟨W, hW, hu, f0, hs⟩ := one w (.cells zero64 64)
  simp [hr1, hr2, b62, hW]
  rw [b64f]
  refine exit_agg (vs := mCells _) lies64 f0 z64 (m_len _) (m_one _) ⟨rfl, ?_⟩
  exact hu.putB (.inl (Nat.le_refl _)) _

noncomputable def msgOf (n : Int) : Msg := Classical.choose (messageOf_ex n)
theorem messageOf_calls (n : Int) (w : World) : Calls Try.prog 62 #[.int .i64 n] w fun en w' => en = .returned (mV (msgOf n)) ∧ Upd (fun _ => False) w w' := Classical.choose_spec (messageOf_ex n) w

/-! ### One memory -/
def BB (G : Nat → Prop) (w : World) (x y B : Nat) (S : PB) (R : RB) (k : Nat) : Prop :=
  ∃ own own2 ob bv es, BusIn own w x S ∧ DocIn own2 w y R ∧ BooksAt ob w B nilS nilS nilS nilS nilS bv es ∧ es.length = k ∧
    (∀ b, own b ≠ none → own2 b = none ∧ ¬ ob b) ∧ (∀ b, own2 b ≠ none → ¬ ob b) ∧ (∀ b, G b ↔ own b ≠ none ∨ own2 b ≠ none ∨ ob b)

section
variable {G : Nat → Prop} {w w' : World} {x y B : Nat} {S : PB} {R : RB} {k : Nat}

theorem BB.lt (h : BB G w x y B S R k) {b : Nat} (hb : G b) : b < w.heap.size := by
  obtain ⟨own, own2, ob, bv, es, h1, h2, h3, _, _, _, hG⟩ := h
  rcases (hG b).1 hb with h | h | h
  · exact h1.lt h
  · exact h2.lt h
  · exact h3.lt b h
theorem BB.frame (h : BB G w x y B S R k) {F : Nat → Prop} (hu : Upd F w w') (hF : ∀ b, F b → ¬ G b) : BB G w' x y B S R k := by
  have hlt := fun b hb => h.lt (b := b) hb
  obtain ⟨own, own2, ob, bv, es, h1, h2, h3, h4, h5, h6, hG⟩ := h
  have keep : ∀ b, G b → w'.heap[b]? = w.heap[b]? := fun b hb => hu.old b (hlt b hb) (fun f => hF b f hb)
  exact ⟨own, own2, ob, bv, es, h1.frame (fun b hb => keep b ((hG b).2 (.inl hb))) hu.size, h2.frame (fun b hb => keep b ((hG b).2 (.inr (.inl hb)))) hu.size,
    h3.frame (fun b hb => keep b ((hG b).2 (.inr (.inr hb)))) hu.size, h4, h5, h6, hG⟩
theorem BB.same (h : BB G w x y B S R k) (hu : Upd (fun _ => False) w w') : BB G w' x y B S R k := h.frame hu fun _ f => f.elim
theorem BB.drew (h : BB G w x y B S R k) : BB G w.drew x y B S R k := h.same (Upd.refl _ _).drew
theorem BB.alloc (h : BB G w x y B S R k) (o : Obj) : BB G (w.alloc o) x y B S R k := h.same ((Upd.refl _ _).alloc o)

/-- A call on the program's bus. -/
theorem BB.useS (h : BB G w x y B S R k) {f : FuncId} {args : Array Value} {Pe : Ending → World → (Nat → Option BTag) → Prop} {S' : PB}
    (hc : ∀ own m1 m2 l1 c1 l2 c2 pb lv, BusAt own w x S m1 m2 l1 c1 l2 c2 pb lv → Calls Try.prog f args w fun en w' => ∃ own', Pe en w' own' ∧ BusIn own' w' x S' ∧ (∀ b, own' b ≠ none → own b ≠ none ∨ w.heap.size ≤ b) ∧ Upd (fun b => own b ≠ none) w w') :
    Calls Try.prog f args w fun en w' => ∃ own' G', Pe en w' own' ∧ BB G' w' x y B S' R k ∧ Step G G' w w' ∧ ∀ b, w.heap.size ≤ b → own' b = none → ¬ G' b := by
  obtain ⟨own, own2, ob, bv, es, h1, h2, h3, h4, h5, h6, hG⟩ := h
  obtain ⟨m1, m2, l1, c1, l2, c2, pb, lv, h1⟩ := h1
  refine (hc own m1 m2 l1 c1 l2 c2 pb lv h1).mono ?_
  rintro en w' ⟨own', he, hs, ho, hu⟩
  refine ⟨own', fun b => own' b ≠ none ∨ own2 b ≠ none ∨ ob b, he, ⟨own', own2, ob, bv, es, hs, h2.frame (fun b hb => hu.old b (h2.lt hb) (fun f => hb (h5 b f).1)) hu.size,
    h3.frame (fun b hb => hu.old b (h3.lt b hb) (fun f => (h5 b f).2 hb)) hu.size, h4, fun b hb => ?_, h6, fun b => Iff.rfl⟩, ⟨fun b hb => ?_, hu.mono fun b hb => (hG b).2 (.inl hb)⟩, fun b hb hn => ?_⟩
  · rcases ho b hb with h | h
    · exact h5 b h
    · refine ⟨?_, fun hb2 => by have := h3.lt b hb2; omega⟩
      cases hh : own2 b with
      | none => rfl
      | some t => have := h2.lt (b := b) (by rw [hh]; simp); omega
  · rcases hb with hb | hb | hb
    · rcases ho b hb with h | h
      · exact .inl ((hG b).2 (.inl h))
      · exact .inr h
    · exact .inl ((hG b).2 (.inr (.inl hb)))
    · exact .inl ((hG b).2 (.inr (.inr hb)))
  · rintro (h | h | h)
    · exact h hn
    · have := h2.lt h; omega
    · have := h3.lt b h; omega
theorem BB.useS1 (h : BB G w x y B S R k) {f : FuncId} {args : Array Value} {Pe : Ending → Prop} {S' : PB}
    (hc : ∀ own m1 m2 l1 c1 l2 c2 pb lv, BusAt own w x S m1 m2 l1 c1 l2 c2 pb lv → Calls Try.prog f args w fun en w' => Pe en ∧ BusNext own w w' x S') :
    Calls Try.prog f args w fun en w' => Pe en ∧ ∃ G', BB G' w' x y B S' R k ∧ Step G G' w w' :=
  (h.useS (Pe := fun en _ _ => Pe en) (S' := S') fun own m1 m2 l1 c1 l2 c2 pb lv hs => (hc own m1 m2 l1 c1 l2 c2 pb lv hs).mono fun _ _ ⟨he, own', h1, h2, h3⟩ => ⟨own', he, h1, h2, h3⟩).mono fun _ _ ⟨_, G', he, h1, h2, _⟩ => ⟨he, G', h1, h2⟩

/-- A call on the document's. -/
theorem BB.useR (h : BB G w x y B S R k) {f : FuncId} {args : Array Value} {Pe : Ending → World → (Nat → Option DTag) → Prop} {R' : RB}
    (hc : ∀ own pv wv, DocAt own w y R pv wv → Calls Try.prog f args w fun en w' => ∃ own', Pe en w' own' ∧ DocIn own' w' y R' ∧ (∀ b, own' b ≠ none → own b ≠ none ∨ w.heap.size ≤ b) ∧ Upd (fun b => own b ≠ none) w w') :
    Calls Try.prog f args w fun en w' => ∃ own' G', Pe en w' own' ∧ BB G' w' x y B S R' k ∧ Step G G' w w' ∧ ∀ b, w.heap.size ≤ b → own' b = none → ¬ G' b := by
  obtain ⟨own, own2, ob, bv, es, h1, h2, h3, h4, h5, h6, hG⟩ := h
  obtain ⟨pv, wv, h2⟩ := h2
  refine (hc own2 pv wv h2).mono ?_
  rintro en w' ⟨own', he, hs, ho, hu⟩
  refine ⟨own', fun b => own b ≠ none ∨ own' b ≠ none ∨ ob b, he, ⟨own, own', ob, bv, es, h1.frame (fun b hb => hu.old b (h1.lt hb) (fun f => f (h5 b hb).1)) hu.size, hs,
    h3.frame (fun b hb => hu.old b (h3.lt b hb) (fun f => h6 b f hb)) hu.size, h4, fun b hb => ?_, fun b hb hb2 => ?_, fun b => Iff.rfl⟩, ⟨fun b hb => ?_, hu.mono fun b hb => (hG b).2 (.inr (.inl hb))⟩, fun b hb hn => ?_⟩
  · refine ⟨?_, (h5 b hb).2⟩
    cases hh : own' b with
    | none => rfl
    | some t =>
      rcases ho b (by rw [hh]; simp) with h | h
      · exact absurd (h5 b hb).1 h
      · have := h1.lt hb; omega
  · rcases ho b hb with h | h
    · exact h6 b h hb2
    · have := h3.lt b hb2; omega
  · rcases hb with hb | hb | hb
    · exact .inl ((hG b).2 (.inl hb))
    · rcases ho b hb with h | h
      · exact .inl ((hG b).2 (.inr (.inl h)))
      · exact .inr h
    · exact .inl ((hG b).2 (.inr (.inr hb)))
  · rintro (h | h | h)
    · have := h1.lt h; omega
    · exact h hn
    · have := h3.lt b h; omega
theorem BB.useR1 (h : BB G w x y B S R k) {f : FuncId} {args : Array Value} {Pe : Ending → Prop} {R' : RB}
    (hc : ∀ own pv wv, DocAt own w y R pv wv → Calls Try.prog f args w fun en w' => Pe en ∧ DocNext own w w' y R') :
    Calls Try.prog f args w fun en w' => Pe en ∧ ∃ G', BB G' w' x y B S R' k ∧ Step G G' w w' :=
  (h.useR (Pe := fun en _ _ => Pe en) (R' := R') fun own pv wv hs => (hc own pv wv hs).mono fun _ _ ⟨he, own', h1, h2, h3⟩ => ⟨own', he, h1, h2, h3⟩).mono fun _ _ ⟨_, G', he, h1, h2, _⟩ => ⟨he, G', h1, h2⟩
theorem BB.onS (h : BB G w x y B S R k) {f : FuncId} {args : Array Value} {Q : Ending → World → Prop} (hc : ∀ own m1 m2 l1 c1 l2 c2 pb lv, BusAt own w x S m1 m2 l1 c1 l2 c2 pb lv → Calls Try.prog f args w Q) : Calls Try.prog f args w Q := by
  obtain ⟨own, own2, ob, bv, es, ⟨m1, m2, l1, c1, l2, c2, pb, lv, h1⟩, _⟩ := h
  exact hc _ _ _ _ _ _ _ _ _ h1
theorem BB.onR (h : BB G w x y B S R k) {f : FuncId} {args : Array Value} {Q : Ending → World → Prop} (hc : ∀ own pv wv, DocAt own w y R pv wv → Calls Try.prog f args w Q) : Calls Try.prog f args w Q := by
  obtain ⟨own, own2, ob, bv, es, _, ⟨pv, wv, h2⟩, _⟩ := h
  exact hc _ _ _ h2

/-- A list is its owner's from now on. -/
theorem BB.own (h : BB G w x y B S R k) (hk : k < 1000000000) {l : Value} {n : Nat} {xs : List Value} (hl : w.ownsRow 0 3 1 l n xs) (hn : n < 1000000000) (hlo : ∀ b, l.ownBlock = some b → ¬ G b) :
    Calls Try.prog 51 #[.pointer (some ⟨B, 0, none⟩), l] w fun en w' => en = .returned (.tuple #[]) ∧ ∃ G', BB G' w' x y B S R (k + 2) ∧ (∀ b, G' b → G b ∨ l.ownBlock = some b ∨ w.heap.size ≤ b) ∧ Upd (fun b => G b ∨ l.ownBlock = some b) w w' := by
  obtain ⟨own, own2, ob, bv, es, h1, h2, h3, h4, h5, h6, hG⟩ := h
  have hlo' : ∀ b, l.ownBlock = some b → own b = none ∧ own2 b = none ∧ ¬ ob b := fun b hb => by
    have := hlo b hb
    rw [hG] at this
    refine ⟨?_, ?_, fun h => this (.inr (.inr h))⟩
    · cases hh : own b with
      | none => rfl
      | some t => exact absurd (.inl (by rw [hh]; simp)) this
    · cases hh : own2 b with
      | none => rfl
      | some t => exact absurd (.inr (.inl (by rw [hh]; simp))) this
  refine (ownInts_calls h3 (by omega) hl hn fun b hb => (hlo' b hb).2.2).mono ?_
  rintro en w' ⟨he, ob', bv', u, hb', hu, ho⟩
  have hlrow : ∀ b, l.ownBlock = some b → b < w.heap.size := fun b hb => row_lt hl hb
  refine ⟨he, fun b => own b ≠ none ∨ own2 b ≠ none ∨ ob' b, ⟨own, own2, ob', bv', es ++ [l, u], h1.frame (fun b hb => hu.old b (h1.lt hb) ?_) hu.size, h2.frame (fun b hb => hu.old b (h2.lt hb) ?_) hu.size, hb', by simp [h4], fun b hb => ⟨(h5 b hb).1, fun hb2 => ?_⟩, fun b hb hb2 => ?_, fun b => Iff.rfl⟩, fun b hb => ?_, hu.mono fun b hb => ?_⟩
  · rintro (h | h)
    · exact (h5 b hb).2 h
    · exact hb (hlo' b h).1
  · rintro (h | h)
    · exact h6 b hb h
    · exact hb (hlo' b h).2.1
  · rcases ho b hb2 with h | h | h
    · exact (h5 b hb).2 h
    · exact hb (hlo' b h).1
    · have := h1.lt hb; omega
  · rcases ho b hb2 with h | h | h
    · exact h6 b hb h
    · exact hb (hlo' b h).2.1
    · have := h2.lt hb; omega
  · rcases hb with hb | hb | hb
    · exact .inl ((hG b).2 (.inl hb))
    · exact .inl ((hG b).2 (.inr (.inl hb)))
    · rcases ho b hb with h | h | h
      · exact .inl ((hG b).2 (.inr (.inr h)))
      · exact .inr (.inl h)
      · exact .inr (.inr h)
  · rcases hb with hb | hb
    · exact .inl ((hG b).2 (.inr (.inr hb)))
    · exact .inr hb
end

/-! ### From the plain law -/
theorem sim_hq {S : PB} {R : RB} (h : Sim S R) (hW : R.W.length < 1000000000) : ∀ i p, S.places i = some p → p.line.length < 1000000000 := fun i p hp => by
  rw [h.pl] at hp
  cases hf : R.P.find? fun p => p.num == i with
  | none => rw [hf] at hp; cases hp
  | some q =>
    rw [hf] at hp
    have : p = _ := (Option.some.inj hp).symm
    subst this
    simp only [List.length_map]
    exact Nat.lt_of_le_of_lt (List.length_filter_le _ _) hW
theorem sim_hwp {S : PB} {R : RB} (h : Sim S R) : ∀ t i, S.wher t = some i → ∃ p, S.places i = some p := fun t i hw => by
  rw [h.wh] at hw
  cases hf : R.W.find? fun x => x.th == t with
  | none => rw [hf] at hw; cases hw
  | some q =>
    rw [hf] at hw
    have : q.pl = i := by simpa using hw
    subst this
    obtain ⟨p, hp, hn⟩ := h.wp q (List.mem_of_find?_eq_some hf)
    rw [h.pl]
    cases hf2 : R.P.find? fun p => p.num == q.pl with
    | none =>
      rw [List.find?_eq_none] at hf2
      exact absurd (by simpa using hn) (hf2 p hp)
    | some q2 => exact ⟨_, rfl⟩

/-! ### The law's lines -/
/-- Which places may have come. -/
def Keeps (R R' : RB) : Prop := ∀ p ∈ R'.P, (∃ q ∈ R.P, q.num = p.num) ∨ ∃ n, p.num = nearV n 5
theorem Keeps.same {R R' : RB} (h : R'.P = R.P) : Keeps R R' := fun p hp => .inl ⟨p, by rw [← h]; exact hp, rfl⟩
theorem keeps_opn (R : RB) {A a : Int} (hA : nearV a 5 = A) (b : Bool) : Keeps R (R.opn A b).2 := by
  unfold RB.opn
  split
  · exact .same rfl
  · split
    · exact .same rfl
    · intro p hp
      rcases List.mem_append.1 hp with h | h
      · exact .inl ⟨p, h, rfl⟩
      · simp at h; subst h; exact .inr ⟨a, hA.symm⟩
theorem keeps_word (R : RB) (i : Nat) (x : Int) : Keeps R (R.setWord i x) := fun p hp => by
  left
  obtain ⟨j, hj, rfl⟩ := List.getElem_of_mem hp
  have hj' : j < R.P.length := by simpa [RB.setWord] using hj
  refine ⟨R.P[j], List.getElem_mem hj', ?_⟩
  simp only [RB.setWord, List.getElem_modify]
  split <;> rfl
theorem keeps_send (R : RB) (i t how : Int) (m : Msg) : Keeps R (R.send i t how m).2 := by
  unfold RB.send
  repeat' split
  all_goals exact .same rfl
theorem keeps_get (R : RB) (i t : Int) (b : Bool) : Keeps R (R.get i t b).2 := by
  unfold RB.get
  repeat' split
  all_goals exact .same rfl
theorem keeps_ring (R : RB) (bor : Int → Int → Int) (i b : Int) : Keeps R (R.ring bor i b).2 := by
  unfold RB.ring
  repeat' split
  all_goals first | exact .same rfl | exact keeps_word R _ _
theorem keeps_hear (R : RB) (i t : Int) (b : Bool) : Keeps R (R.hear i t b).2 := by
  unfold RB.hear
  repeat' split
  all_goals first | exact .same rfl | exact keeps_word R _ _
theorem keeps_cancel (R : RB) (t : Int) : Keeps R (R.cancel t).2 := .same (cancel_P R t)
theorem keeps_close (R : RB) (i : Int) : Keeps R (R.close i).2 := by
  unfold RB.close
  split
  · exact .same rfl
  · intro p hp
    left
    rcases List.mem_append.1 hp with h | h
    · exact ⟨p, List.mem_of_mem_take h, rfl⟩
    · exact ⟨p, List.mem_of_mem_drop h, rfl⟩

/-- What a step leaves. -/
def PassPost (G : Nat → Prop) (w : World) (x y B : Nat) (R : RB) (k : Nat) (en : Ending) (w' : World) : Prop :=
  en = .returned (.bool true) ∧ ∃ G' S' R' k', BB G' w' x y B S' R' k' ∧ Sim S' R' ∧ R'.P.length ≤ R.P.length + 1 ∧ R'.W.length ≤ R.W.length + 1 ∧ k' ≤ k + 2 ∧ Step G G' w w' ∧ Keeps R R'

section
variable {G : Nat → Prop} {w w' : World} {x y B : Nat} {S : PB} {R : RB} {k : Nat}

theorem line_len {S : PB} {R : RB} (h : Sim S R) (hW : R.W.length < 1000000000) (a : Int) : (S.line a).1.length < 1000000000 := by
  unfold PB.line
  cases hp : S.places a with
  | none => simp
  | some p => simpa using sim_hq h hW a p hp
theorem close_len {S : PB} {R : RB} (h : Sim S R) (hW : R.W.length < 1000000000) (a : Int) : (S.close a).1.1.length < 1000000000 := by
  unfold PB.close
  cases hp : S.places a with
  | none => simp
  | some p => simpa using sim_hq h hW a p hp
theorem rclose_len (R : RB) (a : Int) : (R.close a).2.P.length ≤ R.P.length ∧ (R.close a).2.W.length ≤ R.W.length := by
  unfold RB.close
  split
  · exact ⟨Nat.le_refl _, Nat.le_refl _⟩
  · exact ⟨by simp; omega, cancels_len _ _⟩

set_option maxRecDepth 100000 in
set_option maxHeartbeats 1000000 in
theorem lines_calls (h : BB G w x y B S R k) (sim : Sim S R) (hP : R.P.length < 900000000) (hW : R.W.length < 900000000) (hk : k < 900000000) (kind a : Int) :
    Calls Try.prog 71 #[.pointer (some ⟨x, 0, none⟩), .pointer (some ⟨y, 0, none⟩), .pointer (some ⟨B, 0, none⟩), .int .i64 kind, .int .i64 a] w (PassPost G w x y B R k) := by
  apply vk71
  unfold vc71
  by_cases hkd : kind = 7
  · apply joinK_now
    simp [hkd]
    refine callK_of (h.useS (Pe := fun en w' own' => ∃ v, en = .returned (.tuple #[v, .int .i64 (S.close a).1.2]) ∧ w'.ownsRow 0 3 1 v (S.close a).1.1.length (nums (S.close a).1.1) ∧ ∀ b, v.ownBlock = some b → w.heap.size ≤ b ∧ own' b = none) (S' := (S.close a).2)
      fun own m1 m2 l1 c1 l2 c2 pb lv hs => (Close_calls hs (sim_hq sim (by omega)) a).mono fun _ _ ⟨v, own', e1, e2, e3, e4, e5, e6⟩ => ⟨own', ⟨v, e1, e5, e6⟩, e2, e3, e4⟩) ?_
    rintro r w2 ⟨own', G2, ⟨u, rfl, hu, hub⟩, h2, st2, hn2⟩
    refine ⟨_, rfl, ?_⟩
    simp
    refine callK_of (h2.useR (Pe := fun en w' own' => ∃ v, en = .returned (.tuple #[v, .int .i64 (R.close a).1.2]) ∧ w'.ownsRow 0 3 1 v (R.close a).1.1.length (nums (R.close a).1.1) ∧ ∀ b, v.ownBlock = some b → w2.heap.size ≤ b ∧ own' b = none) (R' := (R.close a).2)
      fun own pv wv hs => (DClose hs (by omega) (by omega) a).mono fun _ _ ⟨v, own', e1, e2, e3, e4, e5, e6⟩ => ⟨own', ⟨v, e1, e5, e6⟩, e2, e3, e4⟩) ?_
    rintro r w3 ⟨own3, G3, ⟨v, rfl, hv3, hvb⟩, h3, st3, hn3⟩
    refine ⟨_, rfl, ?_⟩
    simp
    obtain ⟨e, sim'⟩ := sim.close a
    have hlen := close_len sim (by omega) a
    have hnG2 : ∀ b, u.ownBlock = some b → ¬ G2 b := fun b hb => hn2 b (hub b hb).1 (hub b hb).2
    have hu3 := row_keep hu fun g hg => st3.2.old g (row_lt hu hg) (hnG2 g hg)
    have hub3 : ∀ b, u.ownBlock = some b → w.heap.size ≤ b ∧ ¬ G3 b := fun b hb => ⟨(hub b hb).1, fun hg => by
      rcases st3.1 b hg with h7 | h7
      · exact hnG2 b hb h7
      · have := row_lt hu hb; omega⟩
    have st := st2.trans st3
    obtain ⟨hp1, hp2⟩ := rclose_len R a
    rw [← e] at hv3 ⊢
    refine callK_of (sameInts_calls hu3 hv3 (by omega)) ?_
    rintro r w4 ⟨rfl, hu4⟩
    refine ⟨_, rfl, ?_⟩
    have h4 := h3.same hu4
    have hu4r := row_keep hu3 fun g hg => hu4.old g (row_lt hu3 hg) fun f => f
    refine callK_of (h4.own (by omega) hu4r (by omega) fun b hb => (hub3 b hb).2) ?_
    rintro r w5 ⟨rfl, G5, h5, ho5, hu5⟩
    refine ⟨_, rfl, ?_⟩
    simp
    refine ⟨rfl, G5, _, _, k + 2, h5, sim', by omega, by omega, by omega, ⟨fun b hb => ?_, st.2.trans ((hu4.mono fun _ f => f.elim).trans hu5 fun _ _ hh => hh) fun b hbw hb => ?_⟩, keeps_close R a⟩
    · rcases ho5 b hb with h7 | h7 | h7
      · exact st.1 b h7
      · exact .inr (hub3 b h7).1
      · exact .inr (Nat.le_trans (Nat.le_trans st.2.size hu4.size) h7)
    · rcases hb with hb | hb
      · rcases st.1 b hb with h7 | h7
        · exact h7
        · omega
      · have := (hub3 b hb).1; omega
  · apply joinK_now
    simp [hkd]
    refine callK_of (h.onS fun own m1 m2 l1 c1 l2 c2 pb lv hs => Line_calls hs (sim_hq sim (by omega)) a) ?_
    rintro r w2 ⟨u, rfl, hu2, hu, hub⟩
    refine ⟨_, rfl, ?_⟩
    simp
    have h2 := h.same hu2
    refine callK_of (h2.onR fun own pv wv hs => DLine hs (by omega) (by omega) a) ?_
    rintro r w3 ⟨v, rfl, hu3', hv3, hvb⟩
    refine ⟨_, rfl, ?_⟩
    simp
    have h3 := h2.same hu3'
    have e := sim.line a
    have hlen := line_len sim (by omega) a
    have hu3 := row_keep hu fun g hg => hu3'.old g (row_lt hu hg) fun f => f
    have hub3 : ∀ b, u.ownBlock = some b → w.heap.size ≤ b ∧ ¬ G b := fun b hb => ⟨hub b hb, fun hg => by have := h.lt hg; have := hub b hb; omega⟩
    have st := ((Step.refl G w).upd hu2).upd hu3'
    rw [← e] at hv3 ⊢
    refine callK_of (sameInts_calls hu3 hv3 (by omega)) ?_
    rintro r w4 ⟨rfl, hu4⟩
    refine ⟨_, rfl, ?_⟩
    have h4 := h3.same hu4
    have hu4r := row_keep hu3 fun g hg => hu4.old g (row_lt hu3 hg) fun f => f
    refine callK_of (h4.own (by omega) hu4r (by omega) fun b hb => (hub3 b hb).2) ?_
    rintro r w5 ⟨rfl, G5, h5, ho5, hu5⟩
    refine ⟨_, rfl, ?_⟩
    simp
    refine ⟨rfl, G5, _, _, k + 2, h5, sim, by omega, by omega, by omega, ⟨fun b hb => ?_, st.2.trans ((hu4.mono fun _ f => f.elim).trans hu5 fun _ _ hh => hh) fun b hbw hb => ?_⟩, .same rfl⟩
    · rcases ho5 b hb with h7 | h7 | h7
      · exact st.1 b h7
      · exact .inr (hub3 b h7).1
      · exact .inr (Nat.le_trans (Nat.le_trans st.2.size hu4.size) h7)
    · rcases hb with hb | hb
      · rcases st.1 b hb with h7 | h7
        · exact h7
        · omega
      · have := (hub3 b hb).1; omega
end
end Go.Proofs.Ytaniphdbebdhhaa.Ipc
