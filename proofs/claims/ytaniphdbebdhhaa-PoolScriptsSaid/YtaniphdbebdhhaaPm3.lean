/-
  Pages and untypeds: contracts of the program's clear, New, Empty, Mark, At. No condition beyond what each theorem names.
-/
import Derived.Test.YtaniphdbebdhhaaPm2
namespace Go.Proofs.Ytaniphdbebdhhaa.Pool
open Go.Vk Vk.Pool

theorem sl146 {g n cap : Nat} {lo h : Int} (h0 : 0 ≤ lo) (h1 : lo ≤ h) (h2 : h ≤ cap) (hc : cap ≠ lo.toNat) (ty : TypeId) (w : World) (K : Value → World → Prop) :
    opK Try.prog (.slice 146 (.const (.slice (some ⟨g, 0, none⟩) n cap)) (some (.const (.int .i64 lo))) (some (.const (.int .i64 h))) none) ty w K = K (.slice (some ⟨g, lo.toNat * 2, none⟩) (h.toNat - lo.toNat) (cap - lo.toNat)) w := by
  obtain ⟨i, hi, hs⟩ := ti_84
  exact opK_of (run_slice2 Try.underlying146 hi hs h0 h1 h2 hc ty w) rfl
theorem ssl146 {g n cap : Nat} {lo h : Int} (h0 : 0 ≤ lo) (h1 : lo ≤ h) (h2 : h ≤ cap) (hc : cap ≠ lo.toNat) (ty : TypeId) (w : World) (K : Value → Prop) :
    stK Try.prog (.slice 146 (.const (.slice (some ⟨g, 0, none⟩) n cap)) (some (.const (.int .i64 lo))) (some (.const (.int .i64 h))) none) ty w K = K (.slice (some ⟨g, lo.toNat * 2, none⟩) (h.toNat - lo.toNat) (cap - lo.toNat)) := by
  obtain ⟨i, hi, hs⟩ := ti_84
  exact stK_of (run_slice2 Try.underlying146 hi hs h0 h1 h2 hc ty w) rfl

theorem size_order {n t u : Int} (ht : okReg n t) (hu : okReg n u) : u / 256 < t / 256 ↔ size u < size t := by
  unfold size
  have h1 := ht.1
  have h2 := hu.1
  have := @pow_le_iff (t / 256).toNat (u / 256).toNat
  omega

section
variable {G : Nat → Prop} {w : World} {x : Nat} {R : RP} {m pg : Nat} {l : List Ent3} {c : Nat} {rb : Int → Nat}

/-- How a scan of pages finds things: the first i of them are nobody's. -/
def ScanI (w0 : World) (R : RP) (a s : Nat) (k : Nat) (v : Value) (w' : World) : Prop :=
  ∃ i : Nat, i ≤ s ∧ v = .int .i64 i ∧ k = s - i ∧ Upd (fun _ => False) w0 w' ∧ ∀ j : Nat, j < i → (R.at ((a + j : Nat) : Int)).kind = 0
theorem scan_none {R : RP} (h : Inv R) {a s : Nat} (hz : ∀ j : Nat, j < s → (R.at ((a + j : Nat) : Int)).kind = 0) : R.hitO a s = false := by
  cases hh : R.hitO a s with
  | false => rfl
  | true =>
    rw [RP.hitO_iff] at hh
    obtain ⟨o, ho, h1, h2⟩ := hh
    have := hz (o.num.toNat - a) (by omega)
    rw [show ((a + (o.num.toNat - a) : Nat) : Int) = o.num by omega, RP.at_of h ho] at this
    have := (h.obj o ho).1
    omega
theorem scan_some {R : RP} (h : Inv R) {a s j : Nat} (hj : j < s) (hz : (R.at ((a + j : Nat) : Int)).kind ≠ 0) : R.hitO a s = true := by
  rw [RP.at_kind h] at hz
  obtain ⟨o, ho, e⟩ := hz
  rw [RP.hitO_iff]
  exact ⟨o, ho, by omega, by omega⟩

set_option maxRecDepth 100000 in
theorem clear_calls (h : PoolAt G w x R m pg l c rb) {t : Int} {g : Rg} (hg : R.reg t = some g) :
    Calls Try.prog 77 #[.pointer (some ⟨x, 0, none⟩), .pointer (some ⟨rb t, 0, none⟩)] w fun en w' => en = .returned (.bool (!R.lies t)) ∧ Upd (fun _ => False) w w' := by
  obtain ⟨hgm, rfl⟩ := RP.reg_mem hg
  apply vk77
  unfold vc77
  have hok := (h.inv.reg g hgm).1
  have hs := size8 hok
  have hb0 := base_nonneg g.num
  obtain ⟨hn, hn1, hn2⟩ := h.n
  have hfit := hok.2.2.2
  have hhead := h.head
  have hreg := h.reg _ _ hg
  have ho0 := hok.1
  have ho8 := hok.2.1
  obtain ⟨B, hB⟩ : ∃ B : Nat, base g.num = B := ⟨(base g.num).toNat, by omega⟩
  obtain ⟨S, hS⟩ : ∃ S : Nat, size g.num = S := ⟨(size g.num).toNat, by omega⟩
  have hS' : (2 : Int) ^ (g.num / 256).toNat = S := hS
  have hw : IntKind.i64.wrap ((B : Int) + S) = ((B + S : Nat) : Int) := by rw [wr (by omega) (by omega)]; rfl
  have hcap : R.n.toNat ≠ ((B : Nat) : Int).toNat := by omega
  unfold regO at hreg
  simp [hhead, hreg, stK_shl _ _ _ (g.num / 256) (by omega) ho8, hS', hB, hw, -Int.natCast_add]
  rw [ssl146 (by omega) (by omega) (by omega) hcap]
  simp only [Int.toNat_natCast, Nat.add_sub_cancel_left, stK_len_146]
  refine loopK1 (ScanI w R B S) S ⟨0, by omega, rfl, rfl, (Upd.refl _ w).drew, fun j hj => by omega⟩ ?_
  rintro k v w1 ⟨i, hi, rfl, rfl, hu1, hz⟩
  have hA1 := h.same hu1
  by_cases hlt : i < S
  · have hrd := hA1.cell (i := B + i) (by omega)
    rw [Nat.add_mul] at hrd
    have hwi : IntKind.i64.wrap ((i : Int) + 1) = ((i + 1 : Nat) : Int) := by rw [wr (by omega) (by omega)]; rfl
    simp [hlt, hA1.page, hrd]
    refine var84 _ ?_
    intro W hu2 f0 hs2
    by_cases hk : (R.at ((B + i : Nat) : Int)).kind = 0
    · simp at hk
      simp [f0, hk, hwi, -Int.natCast_add]
      refine ⟨_, ?_, i + 1, by omega, rfl, rfl, hu1.trans hu2 (fun _ _ f => f.elim), fun j hj => ?_⟩
      · omega
      · by_cases e : j = i
        · subst e; simpa using hk
        · exact hz j (by omega)
    · have hl : R.lies g.num = true := by
        unfold RP.lies
        rw [hB, hS, scan_some h.inv hlt hk]; rfl
      simp at hk
      simp [f0, hk, hl]
      exact hu1.trans hu2 fun _ _ f => f.elim
  · obtain rfl : i = S := by omega
    simp [hA1.head]
    refine opK_range under145 hA1.map h.tidy _ ?_
    intro w2 hrg hu2 hs2
    have hO := scan_none h.inv hz
    have hge := hu1.size
    refine loopK0 (fun k w3 => ∃ seen, Ranging w3 w1.heap.size m l seen ∧ Upd (fun _ => False) w w3 ∧ k = todo l seen ∧ ∀ p ∈ l, p.2.2 ∈ seen → ¬ (size p.1 < size g.num ∧ base g.num ≤ base p.1 ∧ base p.1 < base g.num + size g.num)) (todo l #[]) ⟨#[], hrg, hu1.trans hu2 (fun _ _ f => f.elim), rfl, fun p _ hp => by simp at hp⟩ ?_
    rintro k w3 ⟨seen, hr3, hu3, rfl, hno⟩
    refine opK_next hr3 _ ?_ ?_
    · intro hall
      have hl : R.lies g.num = false := by
        unfold RP.lies
        rw [hB, hS, hO, Bool.false_or]
        cases hh : R.lieG g.num with
        | false => rfl
        | true =>
          obtain ⟨k, hk, h1⟩ := (RP.lieG_iff h.inv hgm).1 hh
          obtain ⟨p, hp, e⟩ := h.entry_of hk
          exact absurd (by rw [e]; exact h1) (hno p hp (hall p hp))
      simp [hl]
      exact hu3
    · intro p hp hps w4 hr4 hu4 hs4
      have hu4' := hu3.mine hu4 hge
      have hA4 := h.same hu4'
      obtain ⟨q, hq, hpv⟩ := h.entry hp
      obtain ⟨hqm, hqn⟩ := RP.reg_mem hq
      have hqok := (h.inv.reg q hqm).1
      rw [hqn] at hqok
      simp [opK_entry hr4 hp, hpv]
      refine callK_of (within_calls (hA4.reg _ _ hg) (hA4.reg _ _ hq) hok) ?_
      rintro en w5 ⟨rfl, hu5⟩
      refine ⟨_, rfl, ?_⟩
      by_cases hin : size p.1 < size g.num ∧ base g.num ≤ base p.1 ∧ base p.1 < base g.num + size g.num
      · have hl : R.lies g.num = true := by
          unfold RP.lies
          rw [(RP.lieG_iff h.inv hgm).2 ⟨q, hqm, by rw [hqn]; exact hin⟩, Bool.or_true]
        have hne : rb p.1 ≠ rb g.num := fun e => by
          have := h.inj _ _ (by rw [hq]; rfl) (by rw [hg]; rfl) e
          rw [this] at hin
          omega
        have ho := (size_order hok hqok).2 hin.1
        simp [hne, ho, hin, hl]
        exact hu4'.trans hu5 fun _ _ f => f.elim
      · have hv : (!decide (rb p.1 = rb g.num) && decide (p.1 / 256 < g.num / 256) && decide (base p.1 ≥ base g.num) && decide (base p.1 < base g.num + size g.num)) = false := by
          cases hv : (!decide (rb p.1 = rb g.num) && decide (p.1 / 256 < g.num / 256) && decide (base p.1 ≥ base g.num) && decide (base p.1 < base g.num + size g.num)) with
          | false => rfl
          | true =>
            simp only [Bool.and_eq_true, decide_eq_true_eq] at hv
            exact absurd ⟨(size_order hok hqok).1 hv.1.1.2, hv.1.2, hv.2⟩ hin
        rw [hv]
        refine ⟨_, todo_lt hp hps, seen.push p.2.2, hr4.keep (hu5.old _ hr4.lt.1 fun f => f) (hu5.old _ hr4.lt.2 fun f => f), hu4'.trans hu5 (fun _ _ f => f.elim), rfl, fun a b d hp' hs' => ?_⟩
        have key : ¬ (size a < size g.num ∧ base g.num ≤ base a ∧ base a < base g.num + size g.num) := by
          rcases Array.mem_push.1 hs' with hs' | hs'
          · exact hno (a, b, d) hp' hs'
          · have e1 := find_nodup' h.tidy.2 hp
            have e2 := find_nodup' h.tidy.2 hp'
            subst hs'
            rw [e1] at e2
            have : p.1 = a := by rw [Option.some.inj e2]
            rw [← this]
            exact hin
        intro h1 h2
        omega

set_option maxRecDepth 100000 in
theorem Empty_calls (h : PoolAt G w x R m pg l c rb) (t : Int) :
    Calls Try.prog 82 #[.pointer (some ⟨x, 0, none⟩), .int .i64 t] w fun en w' => en = .returned (.tuple #[.bool (R.empty t).1, .int .i64 (R.empty t).2]) ∧ Upd (fun _ => False) w w' := by
  apply vk82
  unfold vc82 RP.empty
  simp [h.head, look145 h.map]
  cases hg : R.reg t with
  | none => simp [h.look0 hg]; exact Upd.refl _ _
  | some g =>
    simp [h.look1 hg]
    refine callK_of (clear_calls h hg) ?_
    rintro en w2 ⟨rfl, hu⟩
    exact ⟨_, rfl, rfl, hu⟩

set_option maxRecDepth 100000 in
theorem Mark_calls (h : PoolAt G w x R m pg l c rb) (t : Int) :
    Calls Try.prog 31 #[.pointer (some ⟨x, 0, none⟩), .int .i64 t] w fun en w' => en = .returned (.tuple #[.int .i64 (R.mark t).1, .int .i64 (R.mark t).2]) ∧ Upd (fun _ => False) w w' := by
  apply vk31
  unfold vc31 RP.mark
  simp [h.head, look145 h.map]
  cases hg : R.reg t with
  | none => simp [h.look0 hg]; exact Upd.refl _ _
  | some g =>
    have hreg := h.reg _ _ hg
    unfold regO at hreg
    simp [h.look1 hg, hreg]; exact Upd.refl _ _
end
end Go.Proofs.Ytaniphdbebdhhaa.Pool
