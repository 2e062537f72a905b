/-
  An object by raw numbers; the books' part; the pools' contracts as calls on parts. No condition beyond what each theorem names.
-/
import Derived.Test.YtaniphdbebdhhaaLa
import Derived.Test.YtaniphdbebdhhaaVkAt
namespace Go.Proofs.Ytaniphdbebdhhaa.Pool
open Go.Vk Vk.Pool

open Classical in
noncomputable def regV (n : Int) : Int := if h : R64 n then (region_ex n h).choose else 0
theorem r64_reg {n : Int} (h : R64 n) : R64 (regV n) := by unfold regV; rw [dif_pos h]; exact (region_ex n h).choose_spec.1
theorem region_c {n : Int} (h : R64 n) (w : World) : Calls Try.prog 83 #[.int .i64 n] w fun en w' => en = .returned (.int .i64 (regV n)) ∧ Upd (fun _ => False) w w' := by
  unfold regV; rw [dif_pos h]; exact (region_ex n h).choose_spec.2 w

noncomputable def objV (a b : Int) : Ob := if nearV a 10 = 1 then ⟨1, regV b⟩ else ⟨nearV a 10, nearV b 40⟩
theorem r64_obj (a : Int) {b : Int} (h : R64 b) : R64 (objV a b).num := by
  unfold objV; split
  · exact r64_reg h
  · exact r64_near h 40

theorem exit84o {b : Nat} {o : Ob} {w : World} {cs : Array Value} (hb : w.heap[b]? = some (.cells cs 84 (0, 0))) (hs : cs.size = 2) {R : Value → World → Prop}
    (h : R (obV o) (putB w b (.cells (obCells o).toArray 84 (0, 0)))) :
    stn 2 (.pointer (some ⟨b, 0, none⟩)) (obV o) w fun _ w => resK Try.prog [(.pointer (some ⟨b, 0, none⟩), some 84)] w R := by
  unfold obV
  simp only [stn_ptr, hb, blkK_cells]
  refine ⟨trivial, rfl, by omega, rfl, ?_⟩
  rw [writeN_2 _ hs]
  exact resK_agg lies84 (vs := obCells o) (putB_same (blk_lt hb) _) rfl h

set_option maxRecDepth 100000 in
theorem objectOf_calls (a : Int) {b : Int} (h : R64 b) (w : World) : Calls Try.prog 78 #[.int .i64 a, .int .i64 b] w fun en w' => en = .returned (obV (objV a b)) ∧ Upd (fun _ => False) w w' := by
  apply vk78
  unfold vc78 objV
  obtain ⟨W, hW, hu, f0, hs⟩ := one w (.cells zero84 84)
  rw [opK_alloc_84, hW]
  refine callK_of (near_calls a 10 (by decide)) ?_
  rintro r w2 ⟨rfl, rfl⟩
  refine ⟨_, rfl, ?_⟩
  by_cases e : nearV a 10 = 1
  · simp only [opK_int_eql, e, beq_self_eq_true, boolK_bool, if_true]
    refine callK_of (region_c h _) ?_
    rintro r w3 ⟨rfl, hu3⟩
    refine ⟨_, rfl, ?_⟩
    rw [b84]
    have f3 := (hu3.old _ (blk_lt f0) fun f => f).trans f0
    exact exit84o f3 z84 ⟨rfl, (hu.trans hu3 fun _ _ f => f).putB (.inl (Nat.le_refl _)) _⟩
  · have e' : (nearV a 10 == 1) = false := by simpa using e
    simp only [opK_int_eql, e, e', boolK_bool, Bool.false_eq_true, if_false]
    refine callK_of (near_calls b 40 (by decide)) ?_
    rintro r w3 ⟨rfl, rfl⟩
    refine ⟨_, rfl, ?_⟩
    rw [b84]
    exact exit84o f0 z84 ⟨rfl, hu.putB (.inl (Nat.le_refl _)) _⟩

/-! ### The books -/
abbrev nilS : Value := .slice none 0 0
/-- Books with rows of ints and of objects. -/
def BooksH (B k : Nat) : HP := fun G w => ∃ v es v3 es3, w.heap[B]? = some (.cells #[v, nilS, nilS, v3, nilS, nilS] 47 (0, 0)) ∧ BRow 69 3 1 intCells (fun m => m) w v es ∧
  BRow 146 84 2 obCells (fun m => ⟨0, m⟩) w v3 es3 ∧ es.length ≤ k ∧ es3.length ≤ k ∧ ∀ b, G b ↔ b = B ∨ Bl v es b ∨ Bl v3 es3 b
instance {B k : Nat} : Solid (BooksH B k) where
  frame := fun ⟨v, es, v3, es3, h1, h2, h3, h4, h5, h6⟩ hf _ => ⟨v, es, v3, es3, (hf B ((h6 B).2 (.inl rfl))).trans h1, h2.frame fun b hb => hf b ((h6 b).2 (.inr (.inl hb))), h3.frame fun b hb => hf b ((h6 b).2 (.inr (.inr hb))), h4, h5, h6⟩
  lt := by
    intro G w b ⟨v, es, v3, es3, h1, h2, h3, h4, h5, h6⟩ hb
    rcases (h6 b).1 hb with rfl | h | h
    · exact blk_lt h1
    · exact h2.lt h
    · exact h3.lt h
theorem brow_apart {α β : Type} {T e z T2 e2 z2 : Nat} {f : α → List Value} {a : Int → α} {f2 : β → List Value} {a2 : Int → β} {w : World} {v v2 : Value} {es es2 : List Value} (h : BRow T e z f a w v es) (h2 : BRow T2 e2 z2 f2 a2 w v2 es2)
    (n1 : T ≠ T2) (n2 : T ≠ e2) (n3 : e ≠ T2) (n4 : e ≠ e2) {b : Nat} (hb : Bl v es b) : ¬ Bl v2 es2 b := by
  intro hb2
  obtain ⟨cs, t, ht, hc⟩ := h.block hb
  obtain ⟨cs2, t2, ht2, hc2⟩ := h2.block hb2
  rw [hc] at hc2
  simp at hc2
  obtain ⟨_, rfl⟩ := hc2
  rcases ht with rfl | rfl <;> rcases ht2 with rfl | rfl <;> contradiction

theorem ownInts_tri (B k : Nat) (l : Value) (L : List Int) (hk : k < 1000000000) (hL : L.length < 1000000000) :
    TriE Try.prog (Sep (BooksH B k) (Row 3 1 l L.length (nums L))) 51 #[.pointer (some ⟨B, 0, none⟩), l] (fun _ : Unit => .tuple #[]) fun _ => BooksH B (k + 2) := by
  rintro G w ⟨G1, G2, ⟨v, es, v3, es3, h1, h2, h3, h4, h5, h6⟩, ⟨hr, hg⟩, hd, hG⟩
  rw [nums_flat] at hr
  refine (ownInts_calls h1 rfl h2 (by omega) hr hL fun u hu b hb hb2 => hd b ((h6 b).2 (.inr (.inl (.inr ⟨u, hu, hb2⟩)))) ((hg b).2 hb)).mono ?_
  rintro en w' ⟨rfl, v', x, k1, k2, k3, k4, k5⟩
  have hsz := k3.size
  have hB3 : ∀ b, Bl v3 es3 b → w'.heap[b]? = w.heap[b]? := fun b hb => by
    refine k3.old b (h3.lt hb) ?_
    rintro (rfl | e | e)
    · exact h3.other h1 (by decide) (by decide) hb
    · exact brow_apart h2 h3 (by decide) (by decide) (by decide) (by decide) (.inl e) hb
    · exact hd b ((h6 b).2 (.inr (.inr hb))) ((hg b).2 e)
  refine ⟨fun b => b = B ∨ Bl v' (es ++ [l, x]) b ∨ Bl v3 es3 b, ⟨(), rfl, v', es ++ [l, x], v3, es3, k1, k2, h3.frame hB3, by simp; omega, by omega, fun _ => Iff.rfl⟩, fun b hb => ?_, k3.mono fun b hb => (hG b).2 ?_⟩
  · rcases hb with rfl | (e | ⟨u, hu, e⟩) | hb
    · exact .inl ((hG _).2 (.inl ((h6 _).2 (.inl rfl))))
    · exact (k4 b e).imp (fun e => (hG _).2 (.inl ((h6 _).2 (.inr (.inl (.inl e)))))) id
    · rcases List.mem_append.1 hu with hu | hu
      · exact .inl ((hG _).2 (.inl ((h6 _).2 (.inr (.inl (.inr ⟨u, hu, e⟩))))))
      · simp at hu
        rcases hu with rfl | rfl
        · exact .inl ((hG _).2 (.inr ((hg b).2 e)))
        · exact (k5 b e).imp (fun e => (hG _).2 (.inr ((hg b).2 e))) id
    · exact .inl ((hG _).2 (.inl ((h6 _).2 (.inr (.inr hb)))))
  · rcases hb with rfl | e | e
    · exact .inl ((h6 _).2 (.inl rfl))
    · exact .inl ((h6 _).2 (.inr (.inl (.inl e))))
    · exact .inr ((hg b).2 e)

theorem ownObjects_tri (B k : Nat) (l : Value) (L : List Ob) (hk : k < 1000000000) (hL : L.length < 1000000000) :
    TriE Try.prog (Sep (BooksH B k) (Row 84 2 l L.length (L.flatMap obCells))) 92 #[.pointer (some ⟨B, 0, none⟩), l] (fun _ : Unit => .tuple #[]) fun _ => BooksH B (k + 2) := by
  rintro G w ⟨G1, G2, ⟨v, es, v3, es3, h1, h2, h3, h4, h5, h6⟩, ⟨hr, hg⟩, hd, hG⟩
  refine (ownObjects_calls h1 rfl h3 (by omega) hr hL fun u hu b hb hb2 => hd b ((h6 b).2 (.inr (.inr (.inr ⟨u, hu, hb2⟩)))) ((hg b).2 hb)).mono ?_
  rintro en w' ⟨rfl, v', x, k1, k2, k3, k4, k5⟩
  have hsz := k3.size
  have hB3 : ∀ b, Bl v es b → w'.heap[b]? = w.heap[b]? := fun b hb => by
    refine k3.old b (h2.lt hb) ?_
    rintro (rfl | e | e)
    · exact h2.other h1 (by decide) (by decide) hb
    · exact brow_apart h2 h3 (by decide) (by decide) (by decide) (by decide) hb (.inl e)
    · exact hd b ((h6 b).2 (.inr (.inl hb))) ((hg b).2 e)
  refine ⟨fun b => b = B ∨ Bl v es b ∨ Bl v' (es3 ++ [l, x]) b, ⟨(), rfl, v, es, v', es3 ++ [l, x], k1, h2.frame hB3, k2, by omega, by simp; omega, fun _ => Iff.rfl⟩, fun b hb => ?_, k3.mono fun b hb => (hG b).2 ?_⟩
  · rcases hb with rfl | hb | (e | ⟨u, hu, e⟩)
    · exact .inl ((hG _).2 (.inl ((h6 _).2 (.inl rfl))))
    · exact .inl ((hG _).2 (.inl ((h6 _).2 (.inr (.inl hb)))))
    · exact (k4 b e).imp (fun e => (hG _).2 (.inl ((h6 _).2 (.inr (.inr (.inl e)))))) id
    · rcases List.mem_append.1 hu with hu | hu
      · exact .inl ((hG _).2 (.inl ((h6 _).2 (.inr (.inr (.inr ⟨u, hu, e⟩))))))
      · simp at hu
        rcases hu with rfl | rfl
        · exact .inl ((hG _).2 (.inr ((hg b).2 e)))
        · exact (k5 b e).imp (fun e => (hG _).2 (.inr ((hg b).2 e))) id
  · rcases hb with rfl | e | e
    · exact .inl ((h6 _).2 (.inl rfl))
    · exact .inl ((h6 _).2 (.inr (.inr (.inl e))))
    · exact .inr ((hg b).2 e)

theorem reads_tri (B k : Nat) (hk : k < 1000000000) : TriE Try.prog (BooksH B k) 16 #[.pointer (some ⟨B, 0, none⟩)] (fun _ : Unit => .bool true) fun _ => BooksH B k :=
  TriE.of_same fun _ w ⟨_, _, _, _, h1, h2, h3, h4, h5, _⟩ => (reads_calls h1 rfl rfl rfl rfl rfl rfl h2 (by omega) h3 (by omega)).mono fun _ _ ⟨a, b⟩ => ⟨a, by rw [b]; exact Upd.refl _ _⟩

/-! ### The pools -/
section
variable (x : Nat) (R : RP)
theorem pnext {A : HP} {G : Nat → Prop} {w w' : World} {en : Ending} {r : Value} (he : en = .returned r) (h : PNext G w w' A) : ∃ G', Ex (fun _ : Unit => Pr (en = .returned r) A) G' w' ∧ Mv G G' w w' :=
  let ⟨G', h1, h2⟩ := h
  ⟨G', ⟨(), he, h1⟩, h2⟩
theorem add_tri (o : Ob) (ho : R64 o.num) : TriE Try.prog (PoolH x R) 27 #[.pointer (some ⟨x, 0, none⟩), obV o] (fun _ : Unit => .int .i64 (R.add o).1) fun _ => PoolH x (R.add o).2 :=
  fun _ _ ⟨_, _, _, _, _, h⟩ => (Add_calls h o ho.1 ho.2).mono fun _ _ ⟨h1, h2⟩ => pnext h1 h2
theorem radd_tri (o : Ob) (ho : R64 o.num) : TriE Try.prog (RefH x R) 79 #[.pointer (some ⟨x, 0, none⟩), obV o] (fun _ : Unit => .int .i64 (R.add o).1) fun _ => RefH x (R.add o).2 :=
  fun _ _ ⟨_, _, h⟩ => (RAdd_calls h o ho.1 ho.2).mono fun _ _ ⟨h1, h2⟩ => pnext h1 h2
theorem remove_tri (o : Ob) : TriE Try.prog (PoolH x R) 80 #[.pointer (some ⟨x, 0, none⟩), obV o] (fun _ : Unit => .int .i64 (R.remove o).1) fun _ => PoolH x (R.remove o).2 :=
  fun _ _ ⟨_, _, _, _, _, h⟩ => (Remove_calls h o).mono fun _ _ ⟨h1, h2⟩ => pnext h1 h2
theorem rremove_tri (o : Ob) : TriE Try.prog (RefH x R) 81 #[.pointer (some ⟨x, 0, none⟩), obV o] (fun _ : Unit => .int .i64 (R.remove o).1) fun _ => RefH x (R.remove o).2 :=
  fun _ _ ⟨_, _, h⟩ => (RRemove_calls h o).mono fun _ _ ⟨h1, h2⟩ => pnext h1 h2
theorem empty_tri (t : Int) : TriE Try.prog (PoolH x R) 82 #[.pointer (some ⟨x, 0, none⟩), .int .i64 t] (fun _ : Unit => .tuple #[.bool (R.empty t).1, .int .i64 (R.empty t).2]) fun _ => PoolH x R :=
  TriE.of_same fun _ _ ⟨_, _, _, _, _, h⟩ => Empty_calls h t
theorem rempty_tri (t : Int) : TriE Try.prog (RefH x R) 84 #[.pointer (some ⟨x, 0, none⟩), .int .i64 t] (fun _ : Unit => .tuple #[.bool (R.empty t).1, .int .i64 (R.empty t).2]) fun _ => RefH x R :=
  TriE.of_same fun _ _ ⟨_, _, h⟩ => REmpty_calls h t
theorem mark_tri (t : Int) : TriE Try.prog (PoolH x R) 31 #[.pointer (some ⟨x, 0, none⟩), .int .i64 t] (fun _ : Unit => .tuple #[.int .i64 (R.mark t).1, .int .i64 (R.mark t).2]) fun _ => PoolH x R :=
  TriE.of_same fun _ _ ⟨_, _, _, _, _, h⟩ => Mark_calls h t
theorem rmark_tri (t : Int) : TriE Try.prog (RefH x R) 85 #[.pointer (some ⟨x, 0, none⟩), .int .i64 t] (fun _ : Unit => .tuple #[.int .i64 (R.mark t).1, .int .i64 (R.mark t).2]) fun _ => RefH x R :=
  TriE.of_same fun _ _ ⟨_, _, h⟩ => RMark_calls h t
theorem at_tri (t : Int) : TriE Try.prog (PoolH x R) 86 #[.pointer (some ⟨x, 0, none⟩), .int .i64 t] (fun _ : Unit => .tuple #[obV (R.atp t).1, .int .i64 (R.atp t).2]) fun _ => PoolH x R :=
  TriE.of_same fun _ _ ⟨_, _, _, _, _, h⟩ => At_calls h t
theorem rat_tri (t : Int) : TriE Try.prog (RefH x R) 87 #[.pointer (some ⟨x, 0, none⟩), .int .i64 t] (fun _ : Unit => .tuple #[obV (R.atp t).1, .int .i64 (R.atp t).2]) fun _ => RefH x R :=
  TriE.of_same fun _ _ ⟨_, _, h⟩ => RAt_calls h t
theorem give_tri (num kind order many : Int) : TriE Try.prog (PoolH x R) 28 #[.pointer (some ⟨x, 0, none⟩), .int .i64 num, .int .i64 kind, .int .i64 order, .int .i64 many] (fun v : Value => .tuple #[v, .int .i64 (R.give num kind order many).1.2])
    fun v => Sep (PoolH x (R.give num kind order many).2) (Row 3 1 v (R.give num kind order many).1.1.length (nums (R.give num kind order many).1.1)) :=
  fun _ _ ⟨_, _, _, _, _, h⟩ => (Give_calls h num kind order many).mono fun _ _ ⟨v, h1, G', h2, h3⟩ => ⟨G', ⟨v, h1, h2⟩, h3⟩
theorem rgive_tri (num kind order many : Int) : TriE Try.prog (RefH x R) 88 #[.pointer (some ⟨x, 0, none⟩), .int .i64 num, .int .i64 kind, .int .i64 order, .int .i64 many] (fun v : Value => .tuple #[v, .int .i64 (R.give num kind order many).1.2])
    fun v => Sep (RefH x (R.give num kind order many).2) (Row 3 1 v (R.give num kind order many).1.1.length (nums (R.give num kind order many).1.1)) :=
  fun _ _ ⟨_, _, h⟩ => (RGive_calls h num kind order many).mono fun _ _ ⟨v, h1, G', h2, h3⟩ => ⟨G', ⟨v, h1, h2⟩, h3⟩
/-- All that lies there, in order. -/
def Sorted (R : RP) (ys : List Ob) : Prop := ys.Perm R.all ∧ ys.Pairwise fun a b => leOb a b
theorem objects_tri : TriE Try.prog (PoolH x R) 89 #[.pointer (some ⟨x, 0, none⟩)] (fun p : Value × List Ob => p.1) fun p => Pr (Sorted R p.2) (Sep (PoolH x R) (Row 84 2 p.1 p.2.length (p.2.flatMap obCells))) :=
  fun _ _ ⟨_, _, _, _, _, h⟩ => (Objects_calls h).mono fun _ _ ⟨v, ys, h1, h2, h3, G', h4, h5⟩ => ⟨G', ⟨(v, ys), h1, ⟨h2, h3⟩, h4⟩, h5⟩
theorem rall_tri : TriE Try.prog (RefH x R) 91 #[.pointer (some ⟨x, 0, none⟩)] (fun p : Value × List Ob => p.1) fun p => Pr (Sorted R p.2) (Sep (RefH x R) (Row 84 2 p.1 p.2.length (p.2.flatMap obCells))) :=
  fun _ _ ⟨_, _, h⟩ => (RAll_calls h).mono fun _ _ ⟨v, ys, h1, h2, h3, G', h4, h5⟩ => ⟨G', ⟨(v, ys), h1, ⟨h2, h3⟩, h4⟩, h5⟩
end
end Go.Proofs.Ytaniphdbebdhhaa.Pool
