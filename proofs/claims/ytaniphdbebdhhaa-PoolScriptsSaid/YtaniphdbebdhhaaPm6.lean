/-
  Pages and untypeds: contract of the program's Give. No condition beyond what each theorem names.
-/
import Derived.Test.YtaniphdbebdhhaaPm5
namespace Go.Proofs.Ytaniphdbebdhhaa.Pool
open Go.Vk Vk.Pool

def nums (l : List Int) : List Value := l.map fun x => .int .i64 x
theorem nums_len (l : List Int) : (nums l).length = l.length := by simp [nums]
theorem int_info : ∃ i, Try.prog.info? 3 = some i ∧ i.zero = some (.int .i64 0) ∧ i.size = 1 ∧ i.bytes = 8 := by
  have h : (Try.prog.info? 3).map (fun i => (i.zero, i.size, i.bytes)) = some (some (.int .i64 0), 1, 8) := by kernel_rfl
  cases hi : Try.prog.info? 3 with
  | none => rw [hi] at h; cases h
  | some i => rw [hi] at h; simp at h; exact ⟨i, rfl, h.1, h.2.1, h.2.2⟩
theorem row_nil (w : World) (e z : Nat) : Row e z (.slice none 0 0) 0 [] (fun _ => False) w := ⟨World.ownsRow_nil w 0 e z, fun b => by simp [Value.ownBlock]⟩
theorem row_not {w : World} {e z n : Nat} {v : Value} {xs : List Value} (h : w.ownsRow 0 e z v n xs) {b : Nat} {cs : Array Value} {T : Nat} {fr : Nat × Nat} (hb : w.heap[b]? = some (.cells cs T fr)) (hne : e ≠ T) : v.ownBlock ≠ some b := by
  intro hb2
  rcases row_open h with ⟨rfl, _⟩ | ⟨g, cap, rest, rfl, hg, _⟩
  · simp [Value.ownBlock] at hb2
  obtain rfl : g = b := by simpa [Value.ownBlock] using hb2
  rw [hg] at hb
  simp at hb
  exact hne hb.2.1

section
variable {G : Nat → Prop} {w w' : World} {x : Nat} {R : RP} {m pg : Nat} {l : List Ent3} {c : Nat} {rb : Int → Nat}

theorem PoolAt.frameB {w1 w2 : World} {r : Nat} {O : Obj} (h : PoolAt G (putB w1 r O) x R m pg l c rb) (hr : r < w1.heap.size) (hf : ∀ b, G b → b ≠ r → w2.heap[b]? = w1.heap[b]?) (hs : w1.heap.size ≤ w2.heap.size) : PoolAt G (putB w2 r O) x R m pg l c rb := by
  refine h.frame (fun b hb => ?_) (by simpa using hs)
  by_cases e : b = r
  · subst e; rw [putB_same (by omega), putB_same hr]
  · rw [putB_other e, putB_other e, hf b hb e]

/-- No list: what an error leaves. -/
theorem PoolAt.stays0 (h : PoolAt G w x R m pg l c rb) (hu : Upd (fun _ => False) w w') : PNext G w w' (Sep (PoolH x R) (Row 3 1 (.slice none 0 0) 0 [])) :=
  ⟨G, ⟨G, fun _ => False, ⟨_, _, _, _, _, h.same hu⟩, row_nil _ _ _, fun _ _ f => f, fun b => by simp⟩, Mv.only hu⟩

/-- How a round of Give finds things. -/
def GiveI (G : Nat → Prop) (w : World) (x : Nat) (num : Int) (rbn : Nat) (S : Nat → RP) (L : Nat → List Int) (M : Nat → Int) (mold : Int) (many : Nat) (k : Nat) (u v y : Value) (w' : World) : Prop :=
  ∃ (j : Nat) (G' : Nat → Prop) (m pg : Nat) (l : List Ent3) (c : Nat) (rb : Int → Nat), j ≤ many ∧ k = many - j ∧ u = .int .i64 (M j) ∧ y = .int .i64 j ∧ rb num = rbn ∧ PoolAt G' (putB w' rbn (regO num (M j))) x (S j) m pg l c rb ∧
    w'.heap[rbn]? = some (regO num mold) ∧ w'.ownsRow 0 3 1 v j (nums (L j)) ∧ (∀ b, v.ownBlock = some b → w.heap.size ≤ b ∧ ¬ G' b) ∧ Mv G G' w w'
/-- How it stands when the thing is laid down, and not yet told. -/
def GiveM (G : Nat → Prop) (w : World) (x : Nat) (num : Int) (rbn : Nat) (S' : RP) (M' : Int) (mold : Int) (v : Value) (n : Nat) (xs : List Value) (tb : Nat) (o : Ob) (w' : World) : Prop :=
  ∃ (G' : Nat → Prop) (m pg : Nat) (l : List Ent3) (c : Nat) (rb : Int → Nat), rb num = rbn ∧ PoolAt G' (putB w' rbn (regO num M')) x S' m pg l c rb ∧
    w'.heap[rbn]? = some (regO num mold) ∧ w'.ownsRow 0 3 1 v n xs ∧ (∀ b, v.ownBlock = some b → w.heap.size ≤ b ∧ ¬ G' b) ∧ Mv G G' w w' ∧ w'.heap[tb]? = some (.cells (obCells o).toArray 84 (0, 0))

set_option maxRecDepth 100000 in
/-- An object's number goes up. -/
theorem add84 (o : Ob) (d s : Int) {w : World} {b : Nat} (hb : w.heap[b]? = some (.cells (obCells o).toArray 84 (0, 0))) (hs : IntKind.i64.wrap (o.num + d) = s) {K : World → Prop}
    (h : ∀ W, W.heap[b]? = some (.cells (obCells ⟨o.kind, s⟩).toArray 84 (0, 0)) → Upd (fun c => c = b) w W → W.heap.size = w.heap.size → K W) :
    opK Try.prog (.fieldAddr 84 (.const (.pointer (some ⟨b, 0, none⟩))) 1) 0 w fun t108 w => ld1 t108 w fun t109 w => opK Try.prog (.binOp .add 3 (.const t109) (.const (.int .i64 d)) 3) 3 w fun t112 w =>
      opK Try.prog (.fieldAddr 84 (.const (.pointer (some ⟨b, 0, none⟩))) 1) 0 w fun t113 w => st1 t113 t112 w fun _ w => K w := by
  simp [hb, hs]
  refine ⟨by simp [ob_len], ?_⟩
  refine h _ ?_ (Upd.putB (F := fun c => c = b) (Upd.refl _ w) (.inr rfl) _) (by simp)
  rw [putB_same (blk_lt hb)]
  simp [obCells]
/-- The mark goes up. -/
theorem PoolAt.up {a b num : Int} {r : Nat} {S : RP} (H : PoolAt G (putB w r (regO num a)) x S m pg l c rb) (hr : rb num = r) (hrl : r < w.heap.size) (hs : (S.reg num).isSome) (hinv : Inv (S.setMark num b)) :
    PoolAt G (putB w r (regO num b)) x (S.setMark num b) m pg l c rb := by
  subst hr
  exact H.newMark hs rfl (setMark_at S num b) (fun u => setMark_reg S num b u hs) hinv (putB_same hrl _) (fun q _ hne => by rw [putB_other hne, putB_other hne]) (by simp)
theorem PoolAt.setPageB {r : Nat} {O : Obj} {w2 : World} (h : PoolAt G (putB w r O) x R m pg l c rb) (hrl : r < w.heap.size) (hrp : pg ≠ r) {R' : RP} {i : Int} {o : Ob} (hi0 : 0 ≤ i) (hin : i < R.n) (hn : R'.n = R.n) (hat : ∀ j : Int, R'.at j = if j = i then o else R.at j) (hreg : ∀ t, R'.reg t = R.reg t) (hinv : Inv R')
    (hp : w2.heap[pg]? = some (.cells (writeN (pgCells R).toArray (i.toNat * 2) (obCells o)) 84 (0, 0))) (hf : ∀ b, b ≠ pg → b < w.heap.size → w2.heap[b]? = w.heap[b]?) (hs : w.heap.size ≤ w2.heap.size) : PoolAt G (putB w2 r O) x R' m pg l c rb := by
  refine h.setPage hi0 hin hn hat hreg hinv (by rw [putB_other hrp]; exact hp) (fun b hb hbp => ?_) (by simpa using hs)
  by_cases e : b = r
  · subst e; rw [putB_same (by omega), putB_same hrl]
  · rw [putB_other e, putB_other e]
    exact hf b hbp (by have := h.lt b hb; simpa using this)
theorem PoolAt.newRegB {r : Nat} {O : Obj} {w2 : World} (h : PoolAt G (putB w r O) x R m pg l c rb) (hrl : r < w.heap.size) (hrp : m ≠ r) {R' : RP} {t : Int} {nb : Nat} (hn : R'.n = R.n) (hat : ∀ j : Int, R'.at j = R.at j) (hreg : ∀ u, R'.reg u = if u = t then some ⟨t, 0⟩ else R.reg u) (hinv : Inv R')
    (hm : w2.heap[m]? = some (.map (ents (mput l c t (.pointer (some ⟨nb, 0, none⟩)))) (mclk l c t))) (hb : w2.heap[nb]? = some (regO t 0)) (hnb : w.heap.size ≤ nb) (hf : ∀ b, b ≠ m → b < w.heap.size → w2.heap[b]? = w.heap[b]?) (hs : w.heap.size ≤ w2.heap.size) :
    PoolAt (fun b => G b ∨ b = nb) (putB w2 r O) x R' m pg (mput l c t (.pointer (some ⟨nb, 0, none⟩))) (mclk l c t) (fun u => if u = t then nb else rb u) := by
  refine h.newReg hn hat hreg hinv (by rw [putB_other hrp]; exact hm) (by rw [putB_other (by omega)]; exact hb) (by simpa using hnb) (fun b hb hbp => ?_) (by simpa using hs)
  by_cases e : b = r
  · subst e; rw [putB_same (by omega), putB_same hrl]
  · rw [putB_other e, putB_other e]
    exact hf b hbp (by have := h.lt b hb; simpa using this)

theorem give1 (R : RP) (num kind order many : Int) (h : kind < 1 ∨ 8 < kind) : R.give num kind order many = (([], 12), R) := by unfold RP.give; rw [if_pos h]
theorem give2 (R : RP) (num kind order many : Int) (h1 : ¬ (kind < 1 ∨ 8 < kind)) (h : order < 0 ∨ 8 < order ∨ kind ≠ 1 ∧ order ≠ 0 ∨ many < 1 ∨ 64 < many) : R.give num kind order many = (([], 1), R) := by unfold RP.give; rw [if_neg h1, if_pos h]

set_option maxRecDepth 100000 in
theorem Give_calls (h : PoolAt G w x R m pg l c rb) (num kind order many : Int) :
    Calls Try.prog 28 #[.pointer (some ⟨x, 0, none⟩), .int .i64 num, .int .i64 kind, .int .i64 order, .int .i64 many] w fun en w' =>
      ∃ v, en = .returned (.tuple #[v, .int .i64 (R.give num kind order many).1.2]) ∧
        PNext G w w' (Sep (PoolH x (R.give num kind order many).2) (Row 3 1 v (R.give num kind order many).1.1.length (nums (R.give num kind order many).1.1))) := by
  apply vk28
  unfold vc28
  by_cases a1 : kind < 1
  · rw [give1 R num kind order many (.inl a1)]
    simp [a1]
    exact h.stays0 (Upd.refl _ _)
  by_cases a2 : 8 < kind
  · rw [give1 R num kind order many (.inr a2)]
    simp [a1, a2]
    exact h.stays0 (Upd.refl _ _)
  by_cases b1 : order < 0
  · rw [give2 R num kind order many (by omega) (.inl b1)]
    simp [a1, a2, b1]
    exact h.stays0 (Upd.refl _ _)
  by_cases b2 : 8 < order
  · rw [give2 R num kind order many (by omega) (by omega)]
    simp [a1, a2, b1, b2]
    exact h.stays0 (Upd.refl _ _)
  by_cases b3 : kind ≠ 1 ∧ order ≠ 0
  · rw [give2 R num kind order many (by omega) (by omega)]
    have c1 : (kind != 1) = true := by simpa using b3.1
    have c2 : (order != 0) = true := by simpa using b3.2
    simp [a1, a2, b1, b2, c1, c2]
    exact h.stays0 (Upd.refl _ _)
  have hcase : (kind != 1) = false ∨ ((kind != 1) = true ∧ (order != 0) = false) := by
    by_cases e : kind = 1
    · left; simp [e]
    · right; exact ⟨by simpa using e, by simp; omega⟩
  by_cases b4 : many < 1
  · rw [give2 R num kind order many (by omega) (by omega)]
    rcases hcase with e | ⟨e, e'⟩
    · simp [a1, a2, b1, b2, e, b4]
      exact h.stays0 (Upd.refl _ _)
    · simp [a1, a2, b1, b2, e, e', b4]
      exact h.stays0 (Upd.refl _ _)
  by_cases b5 : 64 < many
  · rw [give2 R num kind order many (by omega) (by omega)]
    rcases hcase with e | ⟨e, e'⟩
    · simp [a1, a2, b1, b2, e, b4, b5]
      exact h.stays0 (Upd.refl _ _)
    · simp [a1, a2, b1, b2, e, e', b4, b5]
      exact h.stays0 (Upd.refl _ _)
  have e0 : R.give num kind order many = match R.reg num with
    | none => (([], 6), R)
    | some g =>
      if kind = 1 ∧ size num ≤ 2 ^ order.toNat ∨ size num < R.from g order + many * 2 ^ order.toNat then (([], 14), R)
      else (((news (base num + R.from g order) kind order many.toNat).map (·.num), 0),
        (R.puts (news (base num + R.from g order) kind order many.toNat)).setMark num (R.from g order + many * 2 ^ order.toNat)) := by
    unfold RP.give
    rw [if_neg (by omega), if_neg (by omega)]
    rfl
  have hhead := h.head
  have hmap := h.map
  cases hg : R.reg num with
  | none =>
    rw [hg] at e0
    rw [e0]
    rcases hcase with e | ⟨e, e'⟩
    · simp [a1, a2, b1, b2, e, b4, b5, hhead, look145 hmap, h.look0 hg]
      exact h.stays0 (Upd.refl _ _)
    · simp [a1, a2, b1, b2, e, e', b4, b5, hhead, look145 hmap, h.look0 hg]
      exact h.stays0 (Upd.refl _ _)
  | some g =>
  rw [hg] at e0
  simp only at e0
  have hreg := h.reg _ _ hg
  obtain ⟨hgm, hgn⟩ := RP.reg_mem hg
  have hgi := h.inv.reg g hgm
  rw [hgn] at hgi
  have hsz := size8 hgi.1
  have hord := pow8 (k := order) (by omega) (by omega)
  obtain ⟨n, hn⟩ : ∃ n : Int, 2 ^ order.toNat = n := ⟨_, rfl⟩
  rw [hn] at e0 hord
  have hbase := base_lt num
  have hbase0 := base_nonneg num
  have hup := @upTo_le (if R.lies num then g.mark else 0) n (by omega)
  have hfrom : R.from g order = upTo (if R.lies num then g.mark else 0) n := by unfold RP.from; rw [hgn, hn]
  obtain ⟨q0, hq0⟩ : ∃ q0, (if R.lies num then g.mark else 0) = q0 := ⟨_, rfl⟩
  have hq1 : 0 ≤ q0 ∧ q0 ≤ 256 := by rw [← hq0]; split <;> omega
  rw [hq0] at hup hfrom
  have hquo : IntKind.i64.wrap ((q0 + n - 1).tdiv n) = (q0 + n - 1) / n := by
    have h1 : 0 ≤ (q0 + n - 1) / n := Int.ediv_nonneg (by omega) (by omega)
    have h2 : (q0 + n - 1) / n ≤ q0 + n - 1 := Int.ediv_le_self _ (by omega)
    rw [Int.tdiv_eq_ediv_of_nonneg (by omega), wr (by omega) (by omega)]
  have hw1 : IntKind.i64.wrap (q0 + n) = q0 + n := wr (by omega) (by omega)
  have hw2 : IntKind.i64.wrap (q0 + n - 1) = q0 + n - 1 := wr (by omega) (by omega)
  have hw3 : IntKind.i64.wrap ((q0 + n - 1) / n * n) = upTo q0 n := wr (by unfold upTo at hup; omega) (by unfold upTo at hup; omega)
  obtain ⟨f0, hf0⟩ : ∃ f0, upTo q0 n = f0 := ⟨_, rfl⟩
  rw [hf0] at hup hfrom hw3
  rw [hfrom] at e0
  have hmn : 1 ≤ many * n ∧ many * n ≤ 16384 := by
    have h1 : many * 1 ≤ many * n := Int.mul_le_mul_of_nonneg_left (by omega) (by omega)
    have h2 : many * n ≤ 64 * n := Int.mul_le_mul_of_nonneg_right (by omega) (by omega)
    omega
  have hw4 : IntKind.i64.wrap (many * n) = many * n := wr (by omega) (by omega)
  have hw5 : IntKind.i64.wrap (f0 + many * n) = f0 + many * n := wr (by omega) (by omega)
  have hn0 : n ≠ 0 := by omega
  have hoo : num / 256 ≤ order ↔ size num ≤ n := by
    rw [← hn]; unfold size; rw [pow_le_iff]
    have := hgi.1.1
    omega
  unfold regO at hreg
  have hrange : 0 ≤ order ∧ order ≤ 8 := by omega
  rcases hcase with e | ⟨e, e'⟩
  first | simp [a1, a2, b1, b2, e, b4, b5, hhead, look145 hmap, h.look1 hg, hreg]
  rotate_left
  simp [a1, a2, b1, b2, e, e', b4, b5, hhead, look145 hmap, h.look1 hg, hreg]
  all_goals
    refine joinK1 (fun v w' => v = .int .i64 q0 ∧ Upd (fun _ => False) w w') ?_ ?_
    · refine callK_of (clear_calls h hg) ?_
      rintro en w2 ⟨rfl, hu⟩
      refine ⟨_, rfl, ?_⟩
      cases hl : R.lies num with
      | true =>
        rw [hl, if_pos rfl] at hq0
        simp [hq0, hu]
      | false =>
        rw [hl, if_neg (by simp)] at hq0
        simp [hq0, hu]
    rintro _ w1 ⟨rfl, hu1⟩
    have hA1 := h.same hu1
    have hreg1 := hA1.reg _ _ hg
    unfold regO at hreg1
    rw [opK_shl _ _ _ order hrange.1 hrange.2]
    have hs2 : (2 : Int) ^ (num / 256).toNat = size num := rfl
    have ho0 : 0 ≤ num / 256 := by have := hgi.1.1; omega
    have ho8 : num / 256 ≤ 8 := hgi.1.2.1
    cases cc : (decide (num / 256 ≤ order) && kind == 1) with
    | true =>
      have cy : kind = 1 ∧ size num ≤ n := by
        simp at cc; exact ⟨cc.2, hoo.1 cc.1⟩
      rw [if_pos (.inl cy)] at e0
      rw [e0]
      simp [hn, hw1, hw2, hn0, hquo, hw3, hreg1, cc]
      exact h.stays0 hu1
    | false =>
    have cn : ¬ (kind = 1 ∧ size num ≤ n) := fun hc => by
      rw [hc.1] at cc
      simp at cc
      have := hoo.2 hc.2
      omega
    by_cases c2 : size num < f0 + many * n
    · rw [if_pos (.inr c2)] at e0
      rw [e0]
      simp [hn, hw1, hw2, hn0, hquo, hw3, hreg1, cc, hw4, hw5, opK_shl _ _ _ (num / 256) ho0 ho8, hs2, c2]
      exact h.stays0 hu1
    rw [if_neg (by rintro (hh | hh); exact cn hh; exact c2 hh)] at e0
    rw [e0]
    simp [hn, hw1, hw2, hn0, hquo, hw3, hreg1, cc, hw4, hw5, opK_shl _ _ _ (num / 256) ho0 ho8, hs2, c2]
    have hmany : (many.toNat : Int) = many := by omega
    have ok : GiveOk R g kind order many.toNat := ⟨hgm, by omega, by omega, by omega, by omega, fun hk => by rw [hgn, hn]; omega, by rw [hgn, hn, hmany, hfrom]; omega⟩
    have ok1 := ok.start h.inv
    have ok2 := fun j => ok.chain h.inv j
    have ok3 := fun {j : Nat} (hj : j < many.toNat) => ok.mid h.inv hj (ok.chain h.inv j (by omega))
    have ok4 := fun {j : Nat} (hj : j < many.toNat) => ok.at h.inv hj
    have ok5 := fun {j : Nat} (hj : j < many.toNat) => ok.bound h.inv hj
    rw [hgn, hn, hfrom] at ok2 ok4
    rw [hgn, hfrom] at ok1
    rw [hgn, hn, hfrom] at ok3
    rw [hn] at ok5
    obtain ⟨b0, hb0⟩ : ∃ b0, base num + f0 = b0 := ⟨_, rfl⟩
    rw [hb0] at ok2 ok3 ok4 ⊢
    obtain ⟨S, hS⟩ : ∃ S : Nat → RP, ∀ j, S j = (R.puts (news b0 kind order j)).setMark num (f0 + j * n) := ⟨_, fun _ => rfl⟩
    have hSi : ∀ j, j ≤ many.toNat → Inv (S j) := fun j hj => by rw [hS]; exact ok2 j hj
    have hSs : ∀ j, j ≤ many.toNat → ((S j).reg num).isSome := fun j hj => by
      have hm : (⟨num, f0 + j * n⟩ : Rg) ∈ (S j).G := by
        rw [hS]
        have := setMark_self_mem (puts_mem (news b0 kind order j) hgm) (f0 + j * n)
        rw [hgn] at this
        exact this
      rw [RP.reg_of (hSi j hj) hm]; rfl
    have hSm : ∀ {j}, j < many.toNat → Inv ((S j).setMark num (f0 + j * n + n)) := fun {j} hj => by rw [hS, setMark_set]; exact ok3 hj
    have hSn : ∀ j, (S j).n = R.n := fun j => by rw [hS]; exact puts_n R _
    have hS0 : S 0 = R.setMark num f0 := by rw [hS]; simp [news, RP.puts]
    have hmk : ∀ j : Nat, f0 + ((j + 1 : Nat) : Int) * n = f0 + j * n + n := fun j => by rw [Int.natCast_add, Int.add_mul]; simp; omega
    have hS1 : ∀ {j}, j < many.toNat → S (j + 1) = ((S j).setMark num (f0 + j * n + n)).put1 (new1 b0 kind order j) := fun {j} hj => by
      rw [hS, hS, news_succ, puts_snoc, setMark_put1 (ok4 hj).2.2.1, setMark_set, hmk]
    obtain ⟨inf, hi1, hi2, hi3, hi4⟩ := int_info
    have hrl1 : rb num < w1.heap.size := blk_lt hreg1
    refine loopK3 (GiveI G w x num (rb num) S (fun j => (news b0 kind order j).map (·.num)) (fun j => f0 + j * n) g.mark many.toNat) many.toNat
      ⟨0, G, m, pg, l, c, rb, by omega, by omega, by simp, rfl, rfl, ?_, hreg1, World.ownsRow_nil w1 0 _ 1, fun b hb => by simp [Value.ownBlock] at hb, Mv.only hu1⟩ ?_
    · show PoolAt G (putB w1 (rb num) (regO num (f0 + ((0 : Nat) : Int) * n))) x (S 0) m pg l c rb
      rw [hS0, show f0 + ((0 : Nat) : Int) * n = f0 by simp]
      have hH : PoolAt G (putB w1 (rb num) (regO num g.mark)) x R m pg l c rb := by
        rw [putB_self (hA1.reg _ _ hg)]; exact hA1
      exact hH.up rfl hrl1 (by rw [hg]; rfl) ok1
    rintro kk u v y w2 ⟨j, G2, m2, pg2, l2, c2', rb2, hj, rfl, rfl, rfl, hrb2, H, hold, hrow, hvo, hmv⟩
    have hrl2 : rb num < w2.heap.size := blk_lt hold
    replace H : PoolAt G2 (putB w2 (rb num) (regO num (f0 + (j : Int) * n))) x (S j) m2 pg2 l2 c2' rb2 := H
    replace hrow : w2.ownsRow 0 3 1 v j (nums ((news b0 kind order j).map (·.num))) := hrow
    obtain ⟨ax, ap, am⟩ := H.reg_x (hSs j hj)
    rw [hrb2] at ax ap am
    have hhd2 := H.head
    have hpg2 := H.page
    have hmp2 := H.map
    rw [putB_other ax.symm, hSn] at hhd2
    rw [putB_other ap.symm] at hpg2
    rw [putB_other am.symm] at hmp2
    unfold regO at hold
    by_cases hlt : j < many.toNat
    · have hlt' : (j : Int) < many := by omega
      obtain ⟨o1, o2, o3, o4⟩ := ok4 hlt
      have hbd := ok5 hlt
      rw [hmany] at hbd
      have hjn : (0 : Int) ≤ j * n := Int.mul_nonneg (by omega) (by omega)
      have hwa : IntKind.i64.wrap (base num + (f0 + j * n)) = b0 + j * n := by rw [wr (by omega) (by omega)]; omega
      have H1 := H.up hrb2 hrl2 (hSs j hj) (hSm hlt)
      obtain ⟨N, hN⟩ : ∃ N, R.n.toNat = N := ⟨_, rfl⟩
      obtain ⟨hNn, hNn1, hNn2⟩ := h.n
      rw [hN] at hhd2 hNn hNn1 hNn2
      obtain ⟨o, ho⟩ : ∃ o, new1 b0 kind order j = o := ⟨_, rfl⟩
      have hSj := hS1 hlt
      rw [ho] at o1 o2 o3 o4 hSj
      have hSi' := hSi (j + 1) hlt
      have hset : (S j).setMark num (f0 + j * n + n) = (R.puts (news b0 kind order j)).setMark num (f0 + j * n + n) := by rw [hS, setMark_set]
      simp [hlt', hold, hwa, b84]
      refine var84 ⟨kind, b0 + j * n⟩ ?_
      intro W hu3 f3 s3
      have hold3 := (hu3.old _ hrl2 fun f => f).trans hold
      have hhd3 := (hu3.old _ (blk_lt hhd2) fun f => f).trans hhd2
      have hpg3 := (hu3.old _ (blk_lt hpg2) fun f => f).trans hpg2
      have hmp3 := (hu3.old _ (blk_lt hmp2) fun f => f).trans hmp2
      have lx := blk_lt hhd2
      have lp := blk_lt hpg2
      have lm := blk_lt hmp2
      refine joinK0 (GiveM G w x num (rb num) (S (j + 1)) (f0 + ((j + 1 : Nat) : Int) * n) g.mark v j (nums ((news b0 kind order j).map (·.num))) w2.heap.size o) ?_ ?_
      · by_cases hk : kind = 1
        · subst hk
          have hok : o.kind = 1 := by rw [← ho]; rfl
          have hon : o.num = b0 + j * n + order * 256 := by rw [← ho]; unfold new1; simp [hn]; omega
          obtain ⟨o4a, o4b⟩ := o4 rfl
          have hwo : IntKind.i64.wrap (order * 256) = order * 256 := wr (by omega) (by omega)
          have hwo2 : IntKind.i64.wrap (b0 + j * n + order * 256) = o.num := by rw [wr (by omega) (by omega), hon]
          simp only [if_true]
          refine add84 ⟨1, b0 + j * n⟩ _ o.num f3 (by rw [hwo]; exact hwo2) ?_
          intro W4 f4 hu4 s4
          have k4 : ∀ b, b < w2.heap.size → W4.heap[b]? = W.heap[b]? := fun b hb => hu4.old b (by omega) (by omega)
          have hold4 := (k4 _ hrl2).trans hold3
          have hhd4 := (k4 _ lx).trans hhd3
          have hmp4 := (k4 _ lm).trans hmp3
          have ho' : (⟨1, o.num⟩ : Ob) = o := by obtain ⟨a, b⟩ := o; simp at hok; rw [hok]
          rw [ho'] at f4
          obtain ⟨O, hO⟩ : ∃ O, O = Obj.cells (Value.agg #[.int .i64 (b0 + j * n), .int .i64 order, .int .i64 0]).cells 154 := ⟨_, rfl⟩
          have hreg0 : O = regO o.num 0 := by rw [hO]; unfold regO; rw [o4a, o4b]; rfl
          obtain ⟨W5, hW5, hu5, f5, s5⟩ := one W4.drew O
          have k5 : ∀ b, b < W4.heap.size → W5.heap[b]? = W4.heap[b]? := fun b hb => hu5.old b hb fun f => f
          have hhd5 := (k5 _ (blk_lt hhd4)).trans hhd4
          have hmp5 := (k5 _ (blk_lt hmp4)).trans hmp4
          have hold5 := (k5 _ (blk_lt hold4)).trans hold4
          have f45 := (k5 _ (blk_lt f4)).trans f4
          simp [f4, hhd4, hold4, hwa, sb154]
          rw [← hO, hW5]
          simp [f45, hhd5, upd145 hmp5]
          have kk : ∀ b, b ≠ m2 → b < w2.heap.size → (putB W5 m2 (.map (ents (mput l2 c2' o.num (.pointer (some ⟨W4.heap.size, 0, none⟩)))) (mclk l2 c2' o.num))).heap[b]? = w2.heap[b]? := fun b hb hlt => by
            rw [putB_other hb, k5 b (by omega), k4 b hlt]; exact hu3.old b hlt fun f => f
          have hsz5 : W5.heap.size = W4.heap.size + 1 := by simpa using s5
          have P := (H1.newRegB (w2 := putB W5 m2 (.map (ents (mput l2 c2' o.num (.pointer (some ⟨W4.heap.size, 0, none⟩)))) (mclk l2 c2' o.num))) (R' := S (j + 1)) (t := o.num) (nb := W4.heap.size) hrl2 am.symm
            ((hSn (j + 1)).trans (hSn j).symm) (fun i => by rw [hSj]; exact put1_at' hok i) (fun u => by
              rw [hSj]
              refine put1_reg hok (fun g hg => ?_) u
              rw [hset] at hg
              obtain ⟨k', hk', e1, _⟩ := setMark_mem hg
              rw [← e1]; exact o1 rfl k' hk') hSi' (putB_same (blk_lt hmp5) _) (by rw [putB_other (by omega), ← hreg0]; exact f5) (by omega) kk (by rw [size_putB]; omega))
          rw [← hmk] at P
          refine ⟨_, m2, pg2, _, _, _, ?_, P, ?_, ?_, fun b hb => ?_, ?_, ?_⟩
          · show (if num = o.num then _ else rb2 num) = _
            rw [if_neg (fun e => (o3.resolve_right (by simp)) e.symm)]; exact hrb2
          · rw [kk _ am hrl2]; exact hold
          · exact row_keep hrow fun g hg => kk g (fun e => (hvo g hg).2 (by rw [e]; exact H.o_map)) (row_lt hrow hg)
          · have := row_lt hrow hb
            exact ⟨(hvo b hb).1, fun hh => hh.elim (hvo b hb).2 (by omega)⟩
          · refine hmv.trans ⟨fun b hb => hb.imp id (by omega), ?_⟩
            refine Upd.putB (F := G2) ?_ (.inr H.o_map) _
            exact (((hu3.mine hu4 (by omega)).drew).trans hu5 fun _ _ f => f.elim).mono fun _ f => f.elim
          · rw [putB_other (by omega), k5 _ (by omega)]; exact f4
        · have hok : o.kind ≠ 1 := by rw [← ho]; exact hk
          obtain ⟨o2a, o2b, o2c⟩ := o2 hk
          have hon : o = ⟨kind, b0 + j * n⟩ := by rw [← ho]; unfold new1; rw [if_neg hk, hn]; simp
          rw [← hon] at f3
          have hnum : b0 + j * n = o.num := by rw [hon]
          have hlN : o.num < (N : Int) := by omega
          have hsz := pg_size (S j)
          rw [hSn, hN] at hsz
          simp [hk, f3, hhd3, o2b, hlN, hpg3]
          have kk : ∀ b, b ≠ pg2 → b < w2.heap.size → (putB W.drew pg2 (.cells (writeN (pgCells (S j)).toArray (o.num.toNat * 2) (obCells o)) 84)).heap[b]? = w2.heap[b]? := fun b hb hlt => by
            rw [putB_other hb]; exact hu3.old b hlt fun f => f
          have P := (H1.setPageB (w2 := putB W.drew pg2 (.cells (writeN (pgCells (S j)).toArray (o.num.toNat * 2) (obCells o)) 84)) (R' := S (j + 1)) (i := o.num) (o := o) hrl2 ap.symm o2b
            (by show o.num < (S j).n; rw [hSn]; exact o2c) ((hSn (j + 1)).trans (hSn j).symm) (fun i => by rw [hSj]; exact put1_at hok (fun p hp => o2a p (by rw [hset] at hp; exact hp)) i) (fun u => by rw [hSj]; exact put1_reg' hok u) hSi'
            (putB_same (blk_lt hpg3) _) kk (by rw [size_putB]; show w2.heap.size ≤ W.heap.size; omega))
          rw [← hmk] at P
          refine ⟨rfl, by rw [hsz]; omega, fun v hv => List.all_eq_true.1 (ob_one o) v hv, G2, m2, pg2, l2, c2', rb2, hrb2, P, ?_, ?_, hvo, ?_, ?_⟩
          · rw [kk _ ap hrl2]; exact hold
          · exact row_keep hrow fun g hg => kk g (fun e => (hvo g hg).2 (by rw [e]; exact H.o_page)) (row_lt hrow hg)
          · refine hmv.trans ⟨fun b hb => .inl hb, ?_⟩
            exact Upd.putB (F := G2) ((hu3.drew).mono fun _ f => f.elim) (.inr H.o_page) _
          · rw [putB_other (by omega)]; exact f3
      · rintro W3 ⟨G3, m3, pg3, l3, c3, rb3, hrb3, H3, hold5, hrow5, hvo5, hmv5, htb5⟩
        simp [htb5]
        have hwj : IntKind.i64.wrap ((j : Int) + 1) = ((j + 1 : Nat) : Int) := by rw [wr (by omega) (by omega)]; rfl
        have hwm : IntKind.i64.wrap (f0 + j * n + n) = f0 + ((j + 1 : Nat) : Int) * n := by rw [hmk, wr (by omega) (by omega)]
        rw [bs69']
        have hrow6 : (W3.alloc (.cells #[.int .i64 o.num] 3)).ownsRow 0 3 1 v j (nums ((news b0 kind order j).map (·.num))) := row_keep hrow5 fun g hg => alloc_old (row_lt hrow5 hg) _
        refine opK_append1 Try.underlying69 hi1 hi2 hi3 hi4 rfl (by omega) hrow6 (alloc_new _ _) (m := 1) rfl (by simp) (by simp [maxLen]; omega) (by omega) ?_
        intro v' w5 r1 r2 r3
        rw [hwj, hwm]
        have hs5 : W3.heap.size + 1 ≤ w5.heap.size := by simpa using r2.size
        have kk : ∀ b, b < W3.heap.size → v.ownBlock ≠ some b → w5.heap[b]? = W3.heap[b]? := fun b hb hne => (r2.block b (by simp; omega) (fun e => hne e.symm)).trans (alloc_old hb _)
        have hrl3 := blk_lt hold5
        have hG3 : ∀ b, G3 b → v.ownBlock ≠ some b := fun b hb e => (hvo5 b e).2 hb
        refine ⟨many.toNat - (j + 1), by omega, j + 1, G3, m3, pg3, l3, c3, rb3, by omega, rfl, rfl, rfl, hrb3, H3.frameB hrl3 (fun b hb hne => kk b (by have := H3.lt b hb; simpa using this) (hG3 b hb)) (by omega), ?_, ?_, fun b hb => ?_, hmv5.new, ?_⟩
        · rw [kk _ hrl3 (hG3 _ (hrb3 ▸ H3.o_reg num (hSs (j + 1) hlt)))]; exact hold5
        · show w5.ownsRow 0 3 1 v' (j + 1) (nums ((news b0 kind order (j + 1)).map (·.num)))
          rw [news_succ, ho]
          simpa [nums] using r1
        · rcases r3 b hb with e | e
          · exact hvo5 b e
          · simp at e
            have h1 := hmv5.upd.size
            refine ⟨by omega, fun hb3 => ?_⟩
            have := H3.lt b hb3
            simp at this
            omega
        · refine hmv5.upd.trans (((Upd.refl (fun c => v.ownBlock = some c) W3).alloc _).trans (Upd.grown (F := fun c => v.ownBlock = some c) r2 fun c hc => hc) fun _ _ hc => hc) fun c hc hv => ?_
          have := (hvo5 c hv).1
          omega
    · have hjm : j = many.toNat := by omega
      have hlt' : ¬ (j : Int) < many := by omega
      simp [hlt', hold]
      have hfin : S j = (R.puts (news b0 kind order many.toNat)).setMark num (f0 + many * n) := by rw [hS, hjm, hmany]
      have hlen : (news b0 kind order many.toNat).length = j := by rw [hjm]; simp [news]
      rw [← hfin, hlen]
      refine ⟨fun b => G2 b ∨ v.ownBlock = some b, ⟨G2, fun b => v.ownBlock = some b, ⟨m2, pg2, l2, c2', rb2, H⟩, ⟨row_keep (by rw [← hjm]; exact hrow) fun g hg => putB_other (fun e => (hvo g hg).2 (by rw [e, ← hrb2]; exact H.o_reg num (hSs j hj))) _, fun _ => Iff.rfl⟩, fun b hb hv => (hvo b hv).2 hb, fun _ => Iff.rfl⟩, fun b hb => ?_, ?_⟩
      · rcases hb with hb | hb
        · exact hmv.new b hb
        · exact .inr (hvo b hb).1
      · exact Upd.putB (F := G) hmv.upd (.inr (h.o_reg num (by rw [hg]; rfl))) _
end
end Go.Proofs.Ytaniphdbebdhhaa.Pool
