/-
  Pages and untypeds: contract of the document's All: all in order. No condition beyond what each theorem names.
-/
import Derived.Test.YtaniphdbebdhhaaPr4
namespace Go.Proofs.Ytaniphdbebdhhaa.Pool
open Go.Vk Vk.Pool

/-- An element of a row is another one. -/
theorem row_write {α : Type} {f : α → List Value} {w : World} {e z : Nat} {v : Value} {L : List α} (hz : ∀ a, (f a).length = z) (h : w.ownsRow 0 e z v L.length (L.flatMap f)) {i : Nat} (hi : i < L.length) (a : α) :
    ∃ g cap cs, v = .slice (some ⟨g, 0, none⟩) L.length cap ∧ w.heap[g]? = some (.cells cs e (0, 0)) ∧ i * z + z ≤ cs.size ∧ (putB w g (.cells (writeN cs (i * z) (f a)) e (0, 0))).ownsRow 0 e z v (L.set i a).length ((L.set i a).flatMap f) := by
  rcases row_open h with ⟨rfl, h0, _⟩ | ⟨g, cap, rest, rfl, hg, hn, hm, hs, hl⟩
  · omega
  · have hle : i * z + z ≤ L.length * z := by rw [← Nat.succ_mul]; exact Nat.mul_le_mul_right _ hi
    refine ⟨g, cap, _, rfl, hg, by simp only [List.size_toArray, List.length_append, hl]; omega, ?_⟩
    rw [flat_write hz L rest i hi a, List.length_set]
    refine row_shut (rest := rest) (putB_same (blk_lt hg) _) hn hm ?_ (by rw [flat_len hz, List.length_set])
    rw [List.length_append, flat_len hz, List.length_set]
    rw [List.length_append, hl] at hs
    exact hs

theorem leOb_iff (a b : Ob) : leOb a b = true ↔ ¬ (b.kind < a.kind ∨ b.kind = a.kind ∧ b.num < a.num) := by
  unfold leOb; rw [Bool.not_eq_true', ltOb_not]
theorem leOb_trans {a b c : Ob} (h1 : leOb a b = true) (h2 : leOb b c = true) : leOb a c = true := by
  rw [leOb_iff] at *; omega
theorem leOb_of_lt {a b : Ob} (h : ltOb a b = true) : leOb a b = true := by
  rw [ltOb_iff] at h; rw [leOb_iff]; omega
theorem leOb_anti {a b : Ob} (h1 : leOb a b = true) (h2 : leOb b a = true) : a = b := by
  rw [leOb_iff] at *
  obtain ⟨a1, a2⟩ := a
  obtain ⟨b1, b2⟩ := b
  simp only at h1 h2
  have : a1 = b1 := by omega
  have : a2 = b2 := by omega
  simp [*]
/-- There is one list in order. -/
theorem sorted_one {a b : List Ob} (h1 : a.Pairwise (fun x y => leOb x y)) (h2 : b.Pairwise (fun x y => leOb x y)) (h : a.Perm b) : a = b :=
  List.Perm.eq_of_pairwise (le := fun x y => leOb x y = true) (fun _ _ _ _ h3 h4 => leOb_anti h3 h4) h1 h2 h

/-- How a round of the outer loop finds the list: in order so far. -/
def SortI (w : World) (v : Value) (all : List Ob) (k : Nat) (u : Value) (w' : World) : Prop :=
  ∃ (i : Nat) (ys : List Ob), 1 ≤ i ∧ i ≤ all.length + 1 ∧ k = all.length + 1 - i ∧ u = .int .i64 i ∧ ys.Perm all ∧ (ys.take i).Pairwise (fun x y => leOb x y) ∧ Upd (fun _ => False) w w' ∧ w'.ownsRow 0 84 2 v ys.length (ys.flatMap obCells)
/-- How a round of the inner loop finds it: A, then what goes down, then what it has passed. -/
def InsI (w : World) (v : Value) (all : List Ob) (i : Nat) (k : Nat) (u : Value) (w' : World) : Prop :=
  ∃ (A C D : List Ob) (x : Ob), k = A.length ∧ u = .int .i64 A.length ∧ A.length + C.length = i ∧ (A ++ x :: C ++ D).Perm all ∧ (A ++ C).Pairwise (fun x y => leOb x y) ∧ (∀ c ∈ C, ltOb x c = true) ∧ Upd (fun _ => False) w w' ∧
    w'.ownsRow 0 84 2 v (A ++ x :: C ++ D).length ((A ++ x :: C ++ D).flatMap obCells)

theorem append_nil (ty : TypeId) (w : World) (K : Value → World → Prop) : opK Try.prog (.call ⟨.builtin .append, #[.const (.slice none 0 0), .const (.slice none 0 0)], #[146, 146]⟩) ty w K = K (.slice none 0 0) w := opK_of (by kernel_rfl) rfl

section
variable {G : Nat → Prop} {w w' : World} {r : Nat} {R : RP} {ov gv : Value}

set_option maxHeartbeats 1000000 in
set_option maxRecDepth 100000 in
theorem RAll_calls (h : RefAt G w r R ov gv) :
    Calls Try.prog 91 #[.pointer (some ⟨r, 0, none⟩)] w fun en w' => ∃ (v : Value) (ys : List Ob), en = .returned v ∧ ys.Perm R.all ∧ ys.Pairwise (fun a b => leOb a b) ∧
      PNext G w w' (Sep (RefH r R) (Row 84 2 v ys.length (ys.flatMap obCells))) := by
  apply vk91
  unfold vc91
  have hO := O_len h.inv
  have hG := G_len h.inv
  have hhead := h.head
  simp [hhead]
  have first : ∀ (K : Value → World → Prop), (∀ v' w', w'.ownsRow 0 84 2 v' R.O.length (R.O.flatMap obCells) → Upd (fun _ => False) w w' → (∀ b, v'.ownBlock = some b → w.heap.size ≤ b) → K v' w') →
      opK Try.prog (.call ⟨.builtin .append, #[.const (.slice none 0 0), .const ov], #[146, 146]⟩) 146 w K := by
    intro K hK
    rcases row_open h.orow with ⟨rfl, h0, _⟩ | ⟨g, cap, rest, rfl, hg, hn, hm, hs, hl⟩
    · rw [append_nil]
      exact hK _ _ h.orow (Upd.refl _ _) fun b hb => by simp [Value.ownBlock] at hb
    · obtain ⟨inf, hi1, hi2, hi3, hi4⟩ := ob_info
      refine opK_appendN Try.underlying146 hi1 hi2 hi3 hi4 rfl (by omega) (World.ownsRow_nil w 0 _ 2) (m := R.O.length) (news := R.O.flatMap obCells) (fun j u hj => by
        rw [add_off, cell_of_blk hg]
        have hj' : j < (R.O.flatMap obCells).length := by
          rcases Nat.lt_or_ge j (R.O.flatMap obCells).length with hh | hh
          · exact hh
          · rw [List.getElem?_eq_none hh] at hj; cases hj
        rw [List.getElem?_toArray, Nat.zero_add, List.getElem?_append_left hj']; exact hj) hl (fun u hu => by
          obtain ⟨q, _, hq⟩ := List.mem_flatMap.1 hu
          exact List.all_eq_true.1 (ob_one q) u hq) (by simp [maxLen]; omega) (by omega) ?_
      intro v1 w4 r1 r2 r3
      exact hK v1 w4 (by simpa using r1) (Upd.grown r2 fun c hc => by simp [Value.ownBlock] at hc) fun b hb => (r3 b hb).resolve_left (by simp [Value.ownBlock])
  refine first _ ?_
  intro v1 w1 r1 hu1 hlo1
  let obs := fun i => R.O ++ (R.G.take i).map fun g => (⟨1, g.num⟩ : Ob)
  refine loopK2 (fun k v u w' => ∃ i : Nat, i ≤ R.G.length ∧ k = R.G.length - i ∧ u = .int .i64 i ∧ Upd (fun _ => False) w w' ∧ w'.ownsRow 0 84 2 v (obs i).length ((obs i).flatMap obCells) ∧ ∀ b, v.ownBlock = some b → w.heap.size ≤ b) R.G.length
    ⟨0, by omega, rfl, rfl, hu1, by simpa [obs] using r1, hlo1⟩ ?_
  rintro k v u w2 ⟨i, hi, rfl, rfl, hu2, hrow, hlo⟩
  have h2 := h.same hu2
  have hhead2 := h2.head
  by_cases hlt : i < R.G.length
  · obtain ⟨gg, cap, cs, hv, hgg, hr, hc, _⟩ := row_read rg_len h2.grow hlt
    have hc0 := hc 0 (by omega)
    rw [rg0] at hc0
    simp only [Nat.add_zero] at hc0
    have hw2 : IntKind.i64.wrap ((i : Int) + 1) = ((i + 1 : Nat) : Int) := by rw [wr (by omega) (by omega)]; rfl
    have hlen : (obs i).length ≤ 2600 := by simp [obs]; omega
    subst hv
    simp [hhead2, hlt, hgg, hc0, b84]
    refine push146 hrow (by omega) ⟨1, R.G[i].num⟩ ?_
    intro v' w3 s1 s2 s3
    simp [hw2, -Int.natCast_add]
    refine ⟨R.G.length - (i + 1), by omega, i + 1, by omega, rfl, rfl, hu2.trans s2 fun c hc hv => by have := hlo c hv; omega, ?_, fun b hb => ?_⟩
    · have : obs (i + 1) = obs i ++ [⟨1, R.G[i].num⟩] := by
        simp only [obs]
        rw [List.take_succ_eq_append_getElem hlt, List.map_append]
        simp
      rw [this]; exact s1
    · rcases s3 b hb with e | e
      · exact hlo b e
      · have := hu2.size; omega
  · obtain ⟨a, c, hv⟩ := row_slice h2.grow
    obtain rfl : i = R.G.length := by omega
    have hall : obs R.G.length = R.all := by simp only [obs]; rw [List.take_length]; rfl
    rw [hall] at hrow
    have hlall : R.all.length ≤ 2600 := by unfold RP.all; simp; omega
    subst hv
    simp [hhead2]
    refine loopK1 (SortI w v R.all) (R.all.length + 1 - 1) ⟨1, R.all, by omega, by omega, rfl, rfl, List.Perm.refl _, ?_, hu2, hrow⟩ ?_
    · rcases R.all with _ | ⟨a, l⟩
      · simp
      · simp
    rintro k u w3 ⟨i, ys, hi1, hi2, rfl, rfl, hperm, hsort, hu3, hrow3⟩
    have hyl := hperm.length_eq
    obtain ⟨a3, c3, hv3⟩ := row_slice hrow3
    have hlenv : ∀ {ty : TypeId} {w : World} {K : Value → World → Prop}, opK Try.prog (.call ⟨.builtin .len, #[.const v], #[146]⟩) ty w K = K (.int .i64 ys.length) w := by
      intro ty w K; rw [hv3]; exact opK_len_146 _ _ _ _ _ _
    by_cases hlt2 : i < ys.length
    · have hwi : IntKind.i64.wrap ((i : Int) + 1) = ((i + 1 : Nat) : Int) := by rw [wr (by omega) (by omega)]; rfl
      rw [hlenv]
      simp [hlt2]
      have hsplit : ys = ys.take i ++ ys[i] :: [] ++ ys.drop (i + 1) := by simp
      refine loopK1 (InsI w v R.all i) i ⟨ys.take i, [], ys.drop (i + 1), ys[i], by simp; omega, by simp; omega, by simp; omega, by rw [← hsplit]; exact hperm, by simpa using hsort, by simp, hu3, by rw [← hsplit]; exact hrow3⟩ ?_
      rintro k u w4 ⟨A, C, D, x, rfl, rfl, hAC, hp4, hs4, hlt4, hu4, hrow4⟩
      have hlen4 := hp4.length_eq
      rcases List.eq_nil_or_concat A with rfl | ⟨A', y, rfl⟩
      · -- at the front
        simp [hwi, -Int.natCast_add]
        refine ⟨R.all.length + 1 - (i + 1), by omega, i + 1, x :: C ++ D, by omega, by omega, rfl, rfl, by simpa using hp4, ?_, hu4.drew, row_keep (w := w4) (by simpa using hrow4) fun g hg => rfl⟩
        have : (x :: C ++ D).take (i + 1) = x :: C := by
          have : i = C.length := by simpa using hAC.symm
          rw [this]; simp
        rw [this, List.pairwise_cons]
        exact ⟨fun c hc => leOb_of_lt (hlt4 c hc), by simpa using hs4⟩
      · simp only [List.concat_eq_append] at *
        obtain ⟨K, hK⟩ : ∃ K, A'.length = K := ⟨_, rfl⟩
        have hAl : (A' ++ [y]).length = K + 1 := by simp [hK]
        rw [hAl] at hAC
        have hL : A' ++ [y] ++ x :: C ++ D = A' ++ y :: x :: (C ++ D) := by simp
        rw [hL] at hp4 hrow4 hlen4
        obtain ⟨L, hLL⟩ : ∃ L, A' ++ y :: x :: (C ++ D) = L := ⟨_, rfl⟩
        have hk0 : K < L.length := by rw [← hLL]; simp [hK]
        have hk1 : K + 1 < L.length := by rw [← hLL]; simp [hK]
        have hLk : L[K] = y := by
          have : L[K]? = some y := by rw [← hLL, List.getElem?_append_right (by omega), hK]; simp
          simpa [hk0] using this
        have hLk1 : L[K + 1] = x := by
          have : L[K + 1]? = some x := by rw [← hLL, List.getElem?_append_right (by omega), hK]; simp
          simpa [hk1] using this
        rw [hLL] at hp4 hrow4 hlen4
        obtain ⟨g4, cap4, cs4, hv4, hg4, hrd0, hcc0, _⟩ := row_read ob_len hrow4 hk0
        obtain ⟨g5, cap5, cs5, hv5, hg5, hrd1, hcc1, _⟩ := row_read ob_len hrow4 hk1
        rw [hv4] at hv5
        simp at hv5
        obtain ⟨rfl, rfl⟩ := hv5
        rw [hg4] at hg5
        simp at hg5
        subst hg5
        rw [hLk] at hrd0 hcc0
        rw [hLk1] at hrd1 hcc1
        have q0 := hcc0 0 (by omega)
        have q1 := hcc0 1 (by omega)
        have q2 := hcc1 0 (by omega)
        have q3 := hcc1 1 (by omega)
        rw [ob0] at q0 q2
        rw [ob1] at q1 q3
        simp only [Nat.add_zero] at q0 q2
        have hwk : IntKind.i64.wrap (((K + 1 : Nat) : Int) - 1) = (K : Int) := by rw [wr (by omega) (by omega)]; omega
        have hKpos : (0 : Int) < ((K + 1 : Nat) : Int) := by omega
        have hb1 : (K + 1) * 2 + 2 ≤ cs4.size := by
          obtain ⟨_, _, _, e, h1, h2, _⟩ := row_write ob_len hrow4 hk1 y
          rw [hv4] at e
          simp at e
          rw [← e.1, hg4] at h1
          simp at h1
          rw [h1]; exact h2
        have hb0 : K * 2 + 2 ≤ cs4.size := by omega
        have hgv : g4 < w4.heap.size := blk_lt hg4
        have hg4lo : w.heap.size ≤ g4 := hlo g4 (by rw [hv4]; rfl)
        -- down it goes
        have swap : ltOb x y = true → ∀ W, Upd (fun _ => False) w4 W → W.heap[w4.heap.size]? = some (.cells (obCells x).toArray 84 (0, 0)) → W.heap.size = w4.heap.size + 1 →
            (∃ k', k' < K + 1 ∧ InsI w v R.all i k' (.int .i64 (K : Int)) (putB (putB W g4 (.cells (writeN cs4 ((K + 1) * 2) (obCells y)) 84)) g4 (.cells (writeN (writeN cs4 ((K + 1) * 2) (obCells y)) (K * 2) (obCells x)) 84))) := by
          intro hxy W hW fW sW
          have hrowW : W.ownsRow 0 84 2 v L.length (L.flatMap obCells) := row_keep hrow4 fun g hg => hW.old g (row_lt hrow4 hg) fun f => f
          obtain ⟨g6, cap6, cs6, hv6, hg6, _, hr6⟩ := row_write ob_len hrowW hk1 y
          rw [hv4] at hv6
          simp at hv6
          obtain ⟨rfl, rfl⟩ := hv6
          have hgW := (hW.old g4 hgv fun f => f).trans hg4
          rw [hgW] at hg6
          simp at hg6
          subst hg6
          obtain ⟨g7, cap7, cs7, hv7, hg7, _, hr7⟩ := row_write ob_len hr6 (i := K) (by simpa using hk0) x
          rw [hv4] at hv7
          simp at hv7
          obtain ⟨rfl, _⟩ := hv7
          rw [putB_same (blk_lt hgW)] at hg7
          simp at hg7
          subst hg7
          have hset : (L.set (K + 1) y).set K x = A' ++ x :: (y :: C) ++ D := by
            rw [← hLL]
            apply List.ext_getElem?
            intro j
            simp only [List.getElem?_set, List.length_set]
            rcases Nat.lt_trichotomy j K with hj | hj | hj
            · rw [if_neg (by omega), if_neg (by omega), List.getElem?_append_left (by omega), List.append_assoc, List.getElem?_append_left (by omega)]
            · subst hj
              rw [if_pos rfl, if_pos (by simp [hK]), List.append_assoc, List.getElem?_append_right (by omega), hK]; simp
            · rw [if_neg (by omega)]
              by_cases hj1 : j = K + 1
              · subst hj1
                rw [if_pos rfl, if_pos (by simp [hK]), List.append_assoc, List.getElem?_append_right (by omega), hK]
                simp
              · rw [if_neg (by omega), List.append_assoc, List.getElem?_append_right (by omega), List.getElem?_append_right (by omega), hK]
                obtain ⟨q, hq⟩ : ∃ q, j - K = q + 2 := ⟨j - K - 2, by omega⟩
                rw [hq]; simp
          rw [hset] at hr7
          have hs4' : (A' ++ y :: C).Pairwise (fun x y => leOb x y) := by simpa using hs4
          refine ⟨K, by omega, A', y :: C, D, x, hK.symm, by rw [hK], by simp; omega, ?_, hs4', fun c hc => ?_, ?_, hr7⟩
          · have e1 : A' ++ x :: (y :: C) ++ D = A' ++ (x :: y :: (C ++ D)) := by simp
            rw [e1]
            refine List.Perm.trans ?_ hp4
            rw [← hLL]
            exact List.Perm.append_left _ (List.Perm.swap y x _)
          · rcases List.mem_cons.1 hc with rfl | hc
            · exact hxy
            · have h1 := hlt4 c hc
              exact h1
          · exact ((hu4.trans hW fun _ _ f => f.elim).putB (.inl hg4lo) _).putB (.inl hg4lo) _
        have stop : ltOb x y = false → (∃ k', k' < R.all.length + 1 - i ∧ SortI w v R.all k' (.int .i64 ((i + 1 : Nat) : Int)) w4.drew) := by
          intro hxy
          have hyx : leOb y x = true := by unfold leOb; rw [hxy]; rfl
          have hs4' : (A' ++ y :: C).Pairwise (fun x y => leOb x y) := by simpa using hs4
          refine ⟨R.all.length + 1 - (i + 1), by omega, i + 1, L, by omega, by omega, rfl, rfl, hp4, ?_, hu4.drew, row_keep hrow4 fun g hg => rfl⟩
          have e1 : L.take (i + 1) = A' ++ y :: x :: C := by
            rw [← hLL]
            have : A' ++ y :: x :: (C ++ D) = (A' ++ y :: x :: C) ++ D := by simp
            rw [this, List.take_left' (by simp [hK]; omega)]
          rw [e1]
          rw [List.pairwise_append] at hs4' ⊢
          obtain ⟨s1, s2, s3⟩ := hs4'
          rw [List.pairwise_cons] at s2
          refine ⟨s1, ?_, fun a ha b hb => ?_⟩
          · rw [List.pairwise_cons, List.pairwise_cons]
            refine ⟨fun b hb => ?_, fun c hc => leOb_of_lt (hlt4 c hc), s2.2⟩
            rcases List.mem_cons.1 hb with rfl | hb
            · exact hyx
            · exact s2.1 b hb
          · rcases List.mem_cons.1 hb with rfl | hb
            · exact s3 a ha b List.mem_cons_self
            · rcases List.mem_cons.1 hb with rfl | hb
              · exact leOb_trans (s3 a ha y List.mem_cons_self) hyx
              · exact s3 a ha b (List.mem_cons_of_mem _ hb)
        rw [hAl]
        clear hlenv
        subst hv4
        by_cases c1 : x.kind < y.kind
        · have hxy : ltOb x y = true := (ltOb_iff x y).2 (.inl c1)
          simp [hKpos, hk0, hk1, hg4, q0, q1, q2, q3, hwk, c1, hrd1, -Int.natCast_add]
          refine var84 x ?_
          intro W hW fW sW
          have hW4 : Upd (fun _ => False) w4 W := (Upd.refl _ w4).drew.trans hW fun _ _ f => f.elim
          have hgW := (hW4.old g4 hgv fun f => f).trans hg4
          have ht : w4.heap.size ≠ g4 := by omega
          have p1 : (putB W g4 (.cells (writeN cs4 ((K + 1) * 2) (obCells y)) 84)).heap[w4.heap.size]? = some (.cells (obCells x).toArray 84 (0, 0)) := (putB_other ht _).trans fW
          have p2 : (putB W g4 (.cells (writeN cs4 ((K + 1) * 2) (obCells y)) 84)).heap[g4]? = some (.cells (writeN cs4 ((K + 1) * 2) (obCells y)) 84 (0, 0)) := putB_same (blk_lt hgW) _
          have hone : ∀ (o : Ob), ∀ u ∈ obCells o, u.oneCell' = true := fun o u hu => List.all_eq_true.1 (ob_one o) u hu
          have hfin := swap hxy W hW4 fW sW
          simp [hgW, hrd0, hb1, p1, p2, ob_len, writeN_size', hb0]
          exact ⟨hone y, hone x, hfin⟩
        by_cases c2 : x.kind = y.kind
        · by_cases c3 : x.num < y.num
          · have hxy : ltOb x y = true := (ltOb_iff x y).2 (.inr ⟨c2, c3⟩)
            simp [hKpos, hk0, hk1, hg4, q0, q1, q2, q3, hwk, c1, c2, c3, hrd1, -Int.natCast_add]
            refine var84 x ?_
            intro W hW fW sW
            have hW4 : Upd (fun _ => False) w4 W := (Upd.refl _ w4).drew.trans hW fun _ _ f => f.elim
            have hgW := (hW4.old g4 hgv fun f => f).trans hg4
            have ht : w4.heap.size ≠ g4 := by omega
            have p1 : (putB W g4 (.cells (writeN cs4 ((K + 1) * 2) (obCells y)) 84)).heap[w4.heap.size]? = some (.cells (obCells x).toArray 84 (0, 0)) := (putB_other ht _).trans fW
            have p2 : (putB W g4 (.cells (writeN cs4 ((K + 1) * 2) (obCells y)) 84)).heap[g4]? = some (.cells (writeN cs4 ((K + 1) * 2) (obCells y)) 84 (0, 0)) := putB_same (blk_lt hgW) _
            have hone : ∀ (o : Ob), ∀ u ∈ obCells o, u.oneCell' = true := fun o u hu => List.all_eq_true.1 (ob_one o) u hu
            have hfin := swap hxy W hW4 fW sW
            simp [hgW, hrd0, hb1, p1, p2, ob_len, writeN_size', hb0]
            exact ⟨hone y, hone x, hfin⟩
          · have hxy : ltOb x y = false := (ltOb_not x y).2 (by omega)
            simp [hKpos, hk0, hk1, hg4, q0, q1, q2, q3, hwk, c1, c2, c3, hwi, -Int.natCast_add]
            exact stop hxy
        · have hxy : ltOb x y = false := (ltOb_not x y).2 (by omega)
          have c2' : (x.kind == y.kind) = false := by simpa using c2
          simp [hKpos, hk0, hk1, hg4, q0, q1, q2, q3, hwk, c1, c2', hwi, -Int.natCast_add]
          exact stop hxy
    · have hge : ¬ i < ys.length := hlt2
      rw [hlenv]
      simp [hlt2]
      have hty : ys.take i = ys := List.take_of_length_le (by omega)
      rw [hty] at hsort
      have hvlo := hlo
      refine ⟨ys, hperm, hsort, fun b => G b ∨ v.ownBlock = some b, ⟨G, fun b => v.ownBlock = some b, ⟨_, _, h.same hu3⟩, ⟨hrow3, fun _ => Iff.rfl⟩, fun b hb hv => ?_, fun _ => Iff.rfl⟩, fun b hb => hb.imp id (hvlo b), hu3.mono fun _ f => f.elim⟩
      have := h.lt b hb
      have := hvlo b hv
      omega
end
end Go.Proofs.Ytaniphdbebdhhaa.Pool
