/-
  What the agreement of the two schedulers says of each. No condition.
-/
import Derived.Test.YtaniphdbebdhhaaLw2
namespace Go.Proofs.Ytaniphdbebdhhaa
open Go.Vk Vk.Sched

theorem sim_rok {S : PS} {R : RS} (h : Sim S R) (hL : R.L.length < 1000000000) (hc : R.clock < 1000000000) : ROk R :=
  ⟨⟨h.wf.turns.1, h.wf.turns.2.1⟩, fun t ht => by have := h.wf.turns.2.2 t ht; omega, h.wf.turn, h.wf.left, ⟨h.wf.clock, hc⟩, hL⟩

theorem sim_q {S : PS} {R : RS} (h : Sim S R) {i : Nat} (hi : i < 64) : S.q i = (sortTo R.L ((i / 8 : Nat) : Int) ((i % 8 : Nat) : Int) R.L.length).map (·.num) := by
  have hq := h.queue ((i / 8 : Nat) : Int) ((i % 8 : Nat) : Int)
  unfold PS.queue RS.queue at hq
  rw [if_neg (by omega), if_neg (by omega)] at hq
  have e : (8 * ((i / 8 : Nat) : Int) + ((i % 8 : Nat) : Int)) = (i : Int) := by omega
  rw [e] at hq
  exact congrArg Prod.fst hq

set_option maxRecDepth 100000 in
theorem sim_pok {S : PS} {R : RS} (h : Sim S R) (hL : R.L.length < 1000000000) : POk S := by
  refine ⟨by rw [h.turns]; exact ⟨h.wf.turns.1, h.wf.turns.2.1⟩, fun t ht => ?_, by rw [h.turns, h.turn]; exact h.wf.turn, by rw [h.left]; exact h.wf.left, fun i hi => ?_, fun i hi t ht => ?_⟩
  · rw [h.turns] at ht
    have := h.wf.turns.2.2 t ht
    omega
  · rw [sim_q h hi, List.length_map]
    exact Nat.lt_of_le_of_lt (sortTo_len _ _ _ _) hL
  · rw [sim_q h hi] at ht
    obtain ⟨e, he, rfl⟩ := List.mem_map.1 ht
    obtain ⟨j, hj, _, rfl, hd, hp, hcame⟩ := ((sortTo_spec h.wf _ _ _ (Nat.le_refl _)).2 e).1 he
    refine ⟨_, by rw [h.all, find?_num h.wf.nodup hj]; rfl, ?_⟩
    show 8 * R.L[j].dom + R.L[j].prio = i
    rw [hd, hp]
    omega
end Go.Proofs.Ytaniphdbebdhhaa
