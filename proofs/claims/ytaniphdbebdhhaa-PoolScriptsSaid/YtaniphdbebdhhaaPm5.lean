/-
  Pages and untypeds: contracts of the program's Add, Remove. No condition beyond what each theorem names.
-/
import Derived.Test.YtaniphdbebdhhaaPm4
namespace Go.Proofs.Ytaniphdbebdhhaa.Pool
open Go.Vk Vk.Pool

section
variable {G : Nat → Prop} {w w' : World} {x : Nat} {R : RP} {m pg : Nat} {l : List Ent3} {c : Nat} {rb : Int → Nat}
theorem PoolAt.stays (h : PoolAt G w x R m pg l c rb) (hu : Upd (fun _ => False) w w') : PNext G w w' (PoolH x R) := ⟨G, ⟨_, _, _, _, _, h.same hu⟩, Mv.only hu⟩

/-- Whether an untyped of the map is met. -/
def hitsP (a n : Int) (t : Int) : Prop := a < base t + size t ∧ base t < a + n
def AddI (w0 : World) (r m : Nat) (l : List Ent3) (a n : Int) (k : Nat) (w' : World) : Prop :=
  ∃ seen, Ranging w' r m l seen ∧ Upd (fun _ => False) w0 w' ∧ k = todo l seen ∧ ∀ p ∈ l, p.2.2 ∈ seen → ¬ hitsP a n p.1
theorem AddI.next {w0 w1 : World} {r m : Nat} {l : List Ent3} {a n : Int} {seen : Array Nat} {p : Ent3} (hr : Ranging w1 r m l (seen.push p.2.2)) (hu : Upd (fun _ => False) w0 w1) (hp : p ∈ l) (hnd : (l.map (·.2.2)).Nodup)
    (hno : ∀ p ∈ l, p.2.2 ∈ seen → ¬ hitsP a n p.1) (hin : ¬ hitsP a n p.1) (hs : p.2.2 ∉ seen) : ∃ k', k' < todo l seen ∧ AddI w0 r m l a n k' w1 :=
  ⟨_, todo_lt hp hs, _, hr, hu, rfl, fun q hq hqs => by
    rcases Array.mem_push.1 hqs with hqs | hqs
    · exact hno q hq hqs
    · have e1 := find_nodup' hnd hp
      have e2 := find_nodup' hnd hq
      rw [hqs, e1] at e2
      rw [← Option.some.inj e2]; exact hin⟩

set_option maxRecDepth 100000 in
theorem Add_calls (h : PoolAt G w x R m pg l c rb) (o : Ob) (ho1 : -9223372036854775808 ≤ o.num) (ho2 : o.num ≤ 9223372036854775807) :
    Calls Try.prog 27 #[.pointer (some ⟨x, 0, none⟩), obV o] w fun en w' => en = .returned (.int .i64 (R.add o).1) ∧ PNext G w w' (PoolH x (R.add o).2) := by
  apply vk27
  unfold vc27
  refine box84 o ?_
  intro W hu f0 hs
  have hA := h.same hu
  by_cases k1 : o.kind < 1
  · have e : R.add o = (12, R) := by unfold RP.add; rw [if_pos (.inl k1)]
    rw [e]
    simp [f0, k1]
    exact h.stays hu
  by_cases k2 : 8 < o.kind
  · have e : R.add o = (12, R) := by unfold RP.add; rw [if_pos (.inr k2)]
    rw [e]
    simp [f0, k1, k2]
    exact h.stays hu
  simp [f0, k1, k2]
  refine joinK2 (fun u v w' => u = .int .i64 (if o.kind = 1 then o.num.tmod 256 else o.num) ∧ v = .int .i64 (if o.kind = 1 then o.num.tdiv 256 else 0) ∧ W = w') ?_ ?_
  · by_cases hk : o.kind = 1
    · simp [hk]
      refine callK_of (split_calls o.num ho1 ho2 W) ?_
      rintro en w2 ⟨rfl, rfl⟩
      exact ⟨_, rfl, by simp⟩
    · simp [hk]
  rintro _ _ _ ⟨rfl, rfl, rfl⟩
  by_cases n0 : o.num < 0
  · have e : R.add o = (1, R) := by unfold RP.add; rw [if_neg (by omega), if_pos (.inl n0)]
    rw [e]
    simp [f0, n0]
    exact h.stays hu
  have hdiv : o.num.tdiv 256 = o.num / 256 := Int.tdiv_eq_ediv_of_nonneg (by omega)
  have hmod : o.num.tmod 256 = o.num % 256 := Int.tmod_eq_emod_of_nonneg (by omega)
  rw [hdiv, hmod]
  have efirst : (if o.kind = 1 then o.num % 256 else o.num) = first o := by unfold first base; rfl
  rw [efirst]
  by_cases od : o.kind = 1 ∧ 8 < o.num / 256
  · have e : R.add o = (1, R) := by unfold RP.add; rw [if_neg (by omega), if_pos (.inr od)]
    rw [e]
    simp [f0, n0, od.1, od.2]
    exact h.stays hu
  obtain ⟨D, hD⟩ : ∃ D : Int, (if o.kind = 1 then o.num / 256 else 0) = D := ⟨_, rfl⟩
  have hD0 : 0 ≤ D := by rw [← hD]; split <;> omega
  have hD8 : D ≤ 8 := by rw [← hD]; split <;> omega
  have epages : (2 : Int) ^ D.toNat = pages o := by rw [← hD]; unfold pages size; split <;> rfl
  have hD8' : ¬ 8 < D := by omega
  rw [hD]
  simp [f0, n0, hD8']
  rw [opK_shl _ _ _ D hD0 hD8, epages]
  obtain ⟨S, hS⟩ : ∃ S : Nat, pages o = S := ⟨(pages o).toNat, by have := pow8 hD0 hD8; omega⟩
  have hSb : 1 ≤ S ∧ S ≤ 256 := by have := pow8 hD0 hD8; omega
  obtain ⟨B, hB⟩ : ∃ B : Nat, first o = B := ⟨(first o).toNat, by
    have : 0 ≤ first o := by unfold first; split; exact base_nonneg _; omega
    omega⟩
  have hB2 : (B : Int) ≤ 9223372036854775807 := by
    rw [← hB]; unfold first; split
    · have := base_lt o.num; omega
    · exact ho2
  obtain ⟨hn, hn1, hn2⟩ := h.n
  obtain ⟨N, hN⟩ : ∃ N, R.n.toNat = N := ⟨_, rfl⟩
  have hhead := hA.head
  rw [hN] at hn hn1 hn2 hhead
  have hrem : ((B : Int)).tmod S = (B : Int) % S := Int.tmod_eq_emod_of_nonneg (by omega)
  have hS0 : (S : Int) ≠ 0 := by omega
  have hwn : IntKind.i64.wrap ((N : Int) - S) = (N : Int) - S := wr (by omega) (by omega)
  rw [hS, hB]
  have e3 : ∀ {r : Int × RP}, R.add o = (if (B : Int) % S ≠ 0 ∨ (N : Int) - S < B then (1, R) else if R.hitO B S || R.hitG B S then (7, R) else (0, R.put1 o)) := by
    intro r
    unfold RP.add
    rw [if_neg (by omega), if_neg (by omega), hB, hS, hn]
  have e3 := @e3 (0, R)
  rw [opK_int_rem _ _ _ _ _ hS0, hrem]
  obtain ⟨rm, hrm⟩ : ∃ rm, (B : Int) % S = rm := ⟨_, rfl⟩
  rw [hrm] at e3 ⊢
  by_cases d0 : ¬ rm = 0
  · rw [if_pos (.inl d0)] at e3
    rw [e3]
    have d0' : (rm != 0) = true := by simpa using d0
    simp [d0']
    exact h.stays hu
  obtain rfl : rm = 0 := by omega
  by_cases d2 : (N : Int) - S < B
  · rw [if_pos (.inr d2)] at e3
    rw [e3]
    simp [hhead, hwn, d2]
    exact h.stays hu
  rw [if_neg (by omega)] at e3
  have hw : IntKind.i64.wrap ((B : Int) + S) = ((B + S : Nat) : Int) := by rw [wr (by omega) (by omega)]; rfl
  simp [hhead, hwn, d2, hw, -Int.natCast_add]
  rw [sl146 (by omega) (by omega) (by omega) (by omega)]
  simp only [Int.toNat_natCast, Nat.add_sub_cancel_left, opK_len_146]
  refine loopK1 (ScanI W R B S) S ⟨0, by omega, rfl, rfl, Upd.refl _ W, fun j hj => by omega⟩ ?_
  rintro k v w1 ⟨i, hi, rfl, rfl, hu1, hz⟩
  have hA1 := hA.same hu1
  have huw1 : Upd (fun _ => False) w w1 := hu.trans hu1 fun _ _ f => f.elim
  by_cases hlt : i < S
  · have hrd := hA1.cell (i := B + i) (by omega)
    obtain ⟨p, hp⟩ : ∃ p, R.at ((B + i : Nat) : Int) = p := ⟨_, rfl⟩
    rw [Nat.add_mul, hp] at hrd
    have hwi : IntKind.i64.wrap ((i : Int) + 1) = ((i + 1 : Nat) : Int) := by rw [wr (by omega) (by omega)]; rfl
    simp [hlt, hA1.page, hrd]
    refine var84 p ?_
    intro W2 hu2 f2 hs2
    by_cases hk : p.kind = 0
    · simp [f2, hk, hwi, -Int.natCast_add]
      refine ⟨_, ?_, i + 1, by omega, rfl, rfl, hu1.trans hu2 (fun _ _ f => f.elim), fun j hj => ?_⟩
      · omega
      · by_cases e : j = i
        · subst e; rw [hp]; exact hk
        · exact hz j (by omega)
    · rw [scan_some h.inv hlt (by rw [hp]; exact hk), Bool.true_or, if_pos rfl] at e3
      rw [e3]
      simp [f2, hk]
      exact h.stays (huw1.trans hu2 fun _ _ f => f.elim)
  · obtain rfl : i = S := by omega
    rw [scan_none h.inv hz, Bool.false_or] at e3
    have hhead1 := hA1.head
    simp [hhead1]
    refine opK_range under145 hA1.map h.tidy _ ?_
    intro w2 hrg hu2 hs2
    have hge : W.heap.size ≤ w1.heap.size := hu1.size
    refine loopK0 (AddI W w1.heap.size m l B i) (todo l #[]) ⟨#[], hrg, hu1.trans hu2 (fun _ _ f => f.elim), rfl, fun p _ hp => by simp at hp⟩ ?_
    rintro k w3 ⟨seen, hr3, hu3, rfl, hno⟩
    have huw3 : Upd (fun _ => False) w w3 := hu.trans hu3 fun _ _ f => f.elim
    refine opK_next hr3 _ ?_ ?_
    · intro hall
      have hG : R.hitG B i = false := by
        cases hh : R.hitG B i with
        | false => rfl
        | true =>
          obtain ⟨q, hq, h1⟩ := (R.hitG_iff B i).1 hh
          obtain ⟨p, hp, e⟩ := h.entry_of hq
          exact absurd (by unfold hitsP; rw [e]; exact h1) (hno p hp (hall p hp))
      have hfresh : Fresh R o := fresh_add h.inv (by omega) (by omega) (by rw [hB, hS, ← hn]; omega) (by rw [hB, hS, scan_none h.inv hz, hG]; simp)
      rw [hG, if_neg (by simp)] at e3
      rw [e3]
      have hA3 := hA.same hu3
      have hf3 : w3.heap[w.heap.size]? = some (.cells (obCells o).toArray 84 (0, 0)) := (hu3.old _ (by omega) fun f => f).trans f0
      have hhead3 := hA3.head
      rw [hN] at hhead3
      have hinv := h.inv.put1 hfresh
      by_cases hk : o.kind = 1
      · obtain ⟨q1, q2⟩ := first_region hk
        have eB : base o.num = B := by rw [← q1, hB]
        have eD : o.num / 256 = D := by rw [← hD, if_pos hk]
        obtain ⟨O, hO⟩ : ∃ O, O = Obj.cells (Value.agg #[.int .i64 (B : Int), .int .i64 D, .int .i64 0]).cells 154 := ⟨_, rfl⟩
        have hreg0 : O = regO o.num 0 := by rw [hO]; unfold regO; rw [eB, eD]; rfl
        obtain ⟨W5, hW5, hu5, f5, s5⟩ := one w3.drew O
        have hA5 := (hA3.same (Upd.refl _ w3).drew).same hu5
        have hhead5 := hA5.head
        have hf5 : W5.heap[w.heap.size]? = some (.cells (obCells o).toArray 84 (0, 0)) := (hu5.old _ (blk_lt hf3) fun f => f).trans hf3
        simp [hf3, hk, hhead3, sb154]
        rw [← hO, hW5]
        simp [hf5, hhead5, upd145 hA5.map]
        have hge5 : w.heap.size ≤ w3.heap.size := huw3.size
        have hm3 : m < w3.heap.size := blk_lt hA3.map
        refine ⟨fun b => G b ∨ b = w3.heap.size, ⟨m, pg, _, _, _, hA3.newReg (R' := R.put1 o) (t := o.num) (nb := w3.heap.size) (put1_n R o) (put1_at' hk) (put1_reg hk (hfresh.noG hk)) hinv (putB_same (blk_lt hA5.map) _) ?_ (Nat.le_refl _) (fun b hb hbm => ?_) ?_⟩, fun b hb => ?_, ?_⟩
        · rw [putB_other (by omega), ← hreg0]; exact f5
        · rw [putB_other hbm]; exact hu5.old _ (hA3.lt b hb) fun f => f
        · rw [size_putB, s5]; simp
        · rcases hb with hb | hb
          · exact .inl hb
          · subst hb; exact .inr hge5
        · refine Upd.putB (F := G) ?_ (.inr h.o_map) _
          exact ((huw3.drew).trans hu5 fun _ _ f => f.elim).mono fun _ f => f.elim
      · obtain ⟨q1, q2⟩ := first_other hk
        have eB : o.num = B := by rw [← q1, hB]
        have e2 := hfresh.ok2 hk
        have hBN : B < N := by omega
        have hpg := hA3.page
        have hsz := pg_size R
        simp [hf3, hk, hhead3, hBN, hpg]
        simp [hsz, ob_len]
        refine ⟨by omega, fun v hv => List.all_eq_true.1 (ob_one o) v hv, G, ⟨m, pg, l, c, rb, hA3.setPage (R' := R.put1 o) (i := o.num) (o := o) e2.1 e2.2 (put1_n R o) (put1_at hk fun p hp e => ?_) (put1_reg' hk) hinv ?_ (fun b hb hbm => ?_) ?_⟩, fun b hb => .inl hb, ?_⟩
        · have := hfresh.noO p hp
          rw [q1, q2] at this
          omega
        · rw [eB]; exact putB_same (blk_lt hpg) _
        · exact putB_other hbm _
        · simp
        · exact Upd.putB ((huw3.drew).mono fun _ f => f.elim) (.inr h.o_page) _
    · intro p hp hps w4 hr4 hu4 hs4
      have hu4' := hu3.mine hu4 hge
      have hA4 := hA.same hu4'
      have huw4 : Upd (fun _ => False) w w4 := hu.trans hu4' fun _ _ f => f.elim
      obtain ⟨q, hq, hpv⟩ := h.entry hp
      obtain ⟨hqm, hqn⟩ := RP.reg_mem hq
      have hqok := (h.inv.reg q hqm).1
      rw [hqn] at hqok
      have hq0 : 0 ≤ p.1 / 256 := by have := hqok.1; omega
      have hq8 := hqok.2.1
      have hqs := size8 hqok
      have hqb := base_lt p.1
      have hqb0 := base_nonneg p.1
      have hreg := hA4.reg _ _ hq
      unfold regO at hreg
      have hsz : (2 : Int) ^ (p.1 / 256).toNat = size p.1 := rfl
      have hwq : IntKind.i64.wrap (base p.1 + size p.1) = base p.1 + size p.1 := wr (by omega) (by omega)
      simp [opK_entry hr4 hp, hpv, hreg, stK_shl _ _ _ (p.1 / 256) hq0 hq8, hsz, hwq]
      by_cases c1 : (B : Int) < base p.1 + size p.1
      · by_cases c2 : base p.1 < ((B + i : Nat) : Int)
        · have hG : R.hitG B i = true := (R.hitG_iff B i).2 ⟨q, hqm, by rw [hqn]; exact ⟨c1, by omega⟩⟩
          rw [hG, if_pos rfl] at e3
          rw [e3]
          simp [c1, hreg, hw, c2, -Int.natCast_add]
          exact h.stays huw4.drew
        · simp [c1, hreg, hw, c2, -Int.natCast_add]
          exact AddI.next (hr4.keep rfl rfl) hu4'.drew hp h.tidy.2 hno (fun hh => c2 (by have := hh.2; omega)) hps
      · simp [c1]
        exact AddI.next (hr4.keep rfl rfl) hu4'.drew hp h.tidy.2 hno (fun hh => c1 hh.1) hps

theorem fields84 : ∃ f g, (Try.prog.fieldsOf 84).toList = [f, g] ∧ f.type = 3 ∧ g.type = 3 ∧ f.offset = 0 ∧ g.offset = 1 ∧ f.name ≠ "_" ∧ g.name ≠ "_" := by
  have h : ((Try.prog.fieldsOf 84).toList.map fun f => (f.type, f.offset, f.name)) = [(3, 0, "Kind"), (3, 1, "Num")] := by kernel_rfl
  match hl : (Try.prog.fieldsOf 84).toList with
  | [] => rw [hl] at h; simp at h
  | [_] => rw [hl] at h; simp at h
  | [f, g] =>
    rw [hl] at h
    simp at h
    obtain ⟨⟨h1, h2, h3⟩, h4, h5, h6⟩ := h
    exact ⟨f, g, rfl, h1, h4, h2, h5, by rw [h3]; decide, by rw [h6]; decide⟩
  | _ :: _ :: _ :: _ => rw [hl] at h; simp at h
theorem eq84 (a b : Ob) (w : World) : (Op.equal 84 (.agg (obCells a).toArray) (.agg (obCells b).toArray)).run Try.prog w = .ok (decide (a = b)) w := by
  obtain ⟨f, g, hf, h1, h2, h3, h4, h5, h6⟩ := fields84
  have hu : Try.prog.underlying 84 = some (.struct (Try.prog.fieldsOf 84)) := by kernel_rfl
  have hs : Try.prog.stoodInHeld 84 = false := by kernel_rfl
  obtain ⟨k, hk⟩ : ∃ k, Op.maxDepth = k + 2 := ⟨Op.maxDepth - 2, by decide⟩
  unfold Op.equal
  rw [hk, run_equalIn_struct w (k + 1) 84 _ _ hu hs, hf]
  have e3 : ∀ (x y : Int) (w : World), (Op.equalIn (k + 1) 3 (.int .i64 x) (.int .i64 y)).run Try.prog w = .ok (x == y) w := fun x y w => by simp [Op.equalIn, underlying]
  obtain ⟨a1, a2⟩ := a
  obtain ⟨b1, b2⟩ := b
  simp [Op.eqFields, h5, h6, h1, h2, h3, h4, part, e3, obCells]
  by_cases e1 : a1 = b1
  · by_cases e2 : a2 = b2 <;> simp [e1, e2]
  · simp [e1]
theorem guard84 (op : BinOp) (x y : Operand) (xs ys : Array Value) (w : World) : (eqGuard op 84 x y (.agg xs) (.agg ys)).run Try.prog w = .ok () w := by
  have h : Try.prog.eqGuardType Try.prog.depth 84 = false := by kernel_rfl
  cases op <;> simp [eqGuard, h]
theorem run_neq84 (a b : Ob) (ty : TypeId) (w : World) : (execOp bare { dst := none, op := .binOp .neq 84 (.const (.agg (obCells a).toArray)) (.const (.agg (obCells b).toArray)) 84, type := ty, pos := "", after := #[], guard := none }).run Try.prog w = .ok (.value (.bool (!decide (a = b)))) w := by
  have hb : binOp .neq 84 (.agg (obCells a).toArray) (.agg (obCells b).toArray) = (Op.equal 84 (.agg (obCells a).toArray) (.agg (obCells b).toArray) >>= fun r => Pure.pure (Value.bool (!r))) := rfl
  simp only [execOp, bare, Act.eval, Sem.run_bind, guard84, Result.andThen_ok, hb, eq84, Sem.run_pure]
theorem run_eql84 (a b : Ob) (ty : TypeId) (w : World) : (execOp bare { dst := none, op := .binOp .eql 84 (.const (.agg (obCells a).toArray)) (.const (.agg (obCells b).toArray)) 84, type := ty, pos := "", after := #[], guard := none }).run Try.prog w = .ok (.value (.bool (decide (a = b)))) w := by
  have hb : binOp .eql 84 (.agg (obCells a).toArray) (.agg (obCells b).toArray) = (Op.equal 84 (.agg (obCells a).toArray) (.agg (obCells b).toArray) >>= fun r => Pure.pure (Value.bool r)) := rfl
  simp only [execOp, bare, Act.eval, Sem.run_bind, guard84, Result.andThen_ok, hb, eq84, Sem.run_pure]
theorem stK_neq84 (a b : Ob) (ty : TypeId) (w : World) (K : Value → Prop) : stK Try.prog (.binOp .neq 84 (.const (.agg (obCells a).toArray)) (.const (.agg (obCells b).toArray)) 84) ty w K = K (.bool (!decide (a = b))) := stK_of (run_neq84 a b ty w) rfl
theorem opK_eql84 (a b : Ob) (ty : TypeId) (w : World) (K : Value → World → Prop) : opK Try.prog (.binOp .eql 84 (.const (.agg (obCells a).toArray)) (.const (.agg (obCells b).toArray)) 84) ty w K = K (.bool (decide (a = b))) w := opK_of (run_eql84 a b ty w) rfl
theorem mem_O {R : RP} (h : Inv R) (o : Ob) : o ∈ R.O ↔ 0 ≤ o.num ∧ o.num < R.n ∧ R.at o.num = o ∧ o.kind ≠ 0 := by
  constructor
  · intro ho
    have := h.obj o ho
    exact ⟨this.2.2.1, this.2.2.2, RP.at_of h ho, by omega⟩
  · rintro ⟨_, _, h3, h4⟩
    rcases R.at_cases o.num with ⟨e, _⟩ | ⟨e, _⟩
    · rw [e] at h3; rw [← h3] at h4; simp at h4
    · rw [h3] at e; exact e

set_option maxRecDepth 100000 in
theorem Remove_calls (h : PoolAt G w x R m pg l c rb) (o : Ob) :
    Calls Try.prog 80 #[.pointer (some ⟨x, 0, none⟩), obV o] w fun en w' => en = .returned (.int .i64 (R.remove o).1) ∧ PNext G w w' (PoolH x (R.remove o).2) := by
  apply vk80
  unfold vc80
  refine box84 o ?_
  intro W hu f0 hs
  have hA := h.same hu
  obtain ⟨hn, hn1, hn2⟩ := h.n
  obtain ⟨N, hN⟩ : ∃ N, R.n.toNat = N := ⟨_, rfl⟩
  have hhead := hA.head
  rw [hN] at hn hn1 hn2 hhead
  unfold RP.remove
  by_cases hk : o.kind = 1
  · simp [f0, hk, hhead, slook145 (w := W.drew) hA.map]
    cases hg : R.reg o.num with
    | none =>
      simp [h.look0 hg]
      exact h.stays hu.drew
    | some g =>
      simp [h.look1 hg]
      refine callK_of (clear_calls (hA.same (Upd.refl _ W).drew) hg) ?_
      rintro en w2 ⟨rfl, hu2⟩
      refine ⟨_, rfl, ?_⟩
      have huw2 : Upd (fun _ => False) w w2 := hu.drew.trans hu2 fun _ _ f => f.elim
      cases hl : R.lies o.num with
      | true =>
        simp
        exact h.stays huw2
      | false =>
        have hA2 := h.same huw2
        have hf2 : w2.heap[w.heap.size]? = some (.cells (obCells o).toArray 84 (0, 0)) := (hu2.old _ (by simp; omega) fun f => f).trans f0
        simp [hA2.head, hf2]
        rw [del145 (w := w2.drew) hA2.map]
        refine ⟨G, ⟨m, pg, _, _, _, hA2.goReg (R' := R.dropG o.num) rfl (fun _ => rfl) (dropG_reg R o.num) (h.inv.dropG _) (putB_same (blk_lt hA2.map) _) (fun b hb hbm => putB_other hbm _) (by simp)⟩, fun b hb => .inl hb, ?_⟩
        exact Upd.putB ((huw2.drew).mono fun _ f => f.elim) (.inr h.o_map) _
  · rw [if_neg hk]
    by_cases n0 : o.num < 0
    · have hno : ¬ o ∈ R.O := fun hm => by have := ((mem_O h.inv o).1 hm).1; omega
      simp [f0, hk, n0, hno]
      exact h.stays hu.drew
    by_cases n1 : (N : Int) ≤ o.num
    · have hno : ¬ o ∈ R.O := fun hm => by have := ((mem_O h.inv o).1 hm).2.1; omega
      simp [f0, hk, n0, hno, hhead, n1]
      exact h.stays hu.drew
    have hp0 : 0 ≤ o.num := by omega
    have hp1 : o.num < (N : Int) := by omega
    have hrd := hA.cell (i := o.num.toNat) (by omega)
    rw [show ((o.num.toNat : Nat) : Int) = o.num by omega] at hrd
    obtain ⟨q, hq⟩ : ∃ q, R.at o.num = q := ⟨_, rfl⟩
    rw [hq] at hrd
    have hpg := hA.page
    by_cases e1 : q = o
    · subst e1
      by_cases e2 : q.kind = 0
      · have hno : ¬ q ∈ R.O := fun hm => ((mem_O h.inv q).1 hm).2.2.2 e2
        simp [f0, n0, hno, hhead, n1, hp0, hp1, hpg, hrd, stK_neq84, e2]
        exact h.stays hu.drew
      · have hyes : q ∈ R.O := (mem_O h.inv q).2 ⟨hp0, by omega, hq, e2⟩
        have hsz := pg_size R
        simp [f0, hk, n0, hyes, hhead, n1, hp0, hp1, hpg, hrd, stK_neq84, e2, sb84z, obV]
        simp [hsz, ob_len]
        refine ⟨by omega, fun v hv => List.all_eq_true.1 (ob_one ⟨0, 0⟩) v hv, G, ⟨m, pg, l, c, rb, hA.setPage (R' := R.dropO q) (i := q.num) (o := ⟨0, 0⟩) hp0 (by omega) rfl (dropO_at h.inv hyes) (fun _ => rfl) (h.inv.dropO q) ?_ (fun b hb hbm => ?_) ?_⟩, fun b hb => .inl hb, ?_⟩
        · exact putB_same (blk_lt hpg) _
        · exact putB_other hbm _
        · simp
        · exact Upd.putB ((hu.drew.drew).mono fun _ f => f.elim) (.inr h.o_page) _
    · have hno : ¬ o ∈ R.O := fun hm => e1 (by rw [← hq]; exact ((mem_O h.inv o).1 hm).2.2.1)
      simp [f0, hk, n0, hno, hhead, n1, hp0, hp1, hpg, hrd, stK_neq84, e1]
      exact h.stays hu.drew
end
end Go.Proofs.Ytaniphdbebdhhaa.Pool
