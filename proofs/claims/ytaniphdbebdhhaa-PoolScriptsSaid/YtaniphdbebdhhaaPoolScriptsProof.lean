/-
  The law PoolScripts returns true, however many pages and whatever script come in, and the script reads behind the call as it read before: the program's pool and the document's answer alike at New and at every step. Condition: none.
-/
import Derived.Test.YtaniphdbebdhhaaRows
import Derived.Test.YtaniphdbebdhhaaLy3
import Derived.WalkKit
import Derived.ProofKit
import Derived.OpenShut
import Derived.SizedLaws
import Derived.Carry
namespace Go.Proofs.Ytaniphdbebdhhaa.poolScripts
open Go.ChangeShapes Go.WideShapes Go.ChangeAt Go.RowKit Go.Vk

theorem own : ownKnob Try.prog.godebug = none := by kernel_rfl
theorem laidOut : laidOutB Try.prog = true := by kernel_rfl

set_option maxRecDepth 100000 in
theorem lifted (os : Os) (started : os.Started) (H : Type) (enc : TypeId × Value → H) :
    ReturnsInHanded {} Try.checked os 6 .any (Rows.poolScriptsSpec.pre6 enc Try.prog Try.f6 Rows.poolScriptsRow.domain false) (Rows.poolScriptsSpec.post enc Try.prog Try.f6 false true false false) := by
  refine returnsInHanded_of_change_sized (C := Try.checked) own started (by kernel_rfl) Try.func6
    (ChangeSpec.witness6 (enc := enc) (C := Try.checked) false ⟨#[], #[.int .i64 0, .slice none 0 0], []⟩ 8 (by kernel_rfl) (by kernel_rfl) (by kernel_rfl) (by kernel_rfl)) ?_
  intro W base args ds gs before hval0 hW _ hsz0 _
  have hsz : (DataW.weightsEach Try.prog (Try.f6.params.toList ++ Rows.poolScriptsSpec.plain.varTypes Try.prog) (ds ++ gs)).all (· ≤ reachBytes) = true := hsz0
  clear hsz0
  have hval : ∀ (j : Nat) t v, Try.f6.params[j]? = some t → args[j]? = some v → Value.okWide Try.prog W .any base t v := hval0
  have hW' := hW
  obtain ⟨p, q, hA0, hV, rfl, _, _⟩ := hW
  have hA : DataW.TrodAll enc Try.prog W 0 (fun _ => true) true Try.f6.params.toList args.toList ds p := hA0
  rw [Try.params6] at hA hval hsz
  obtain ⟨v1, v2, d1, d2, p1, p2, rfl, rfl, rfl, h1, h2⟩ := trodAll_two hA
  obtain ⟨rfl, rfl⟩ := trodVars_none hV
  obtain ⟨a2, len2, cap2, rfl⟩ := okWide_slice Try.underlying25 (hval 1 25 v2 rfl rfl)
  have h1k := h1
  have h2k := h2
  obtain ⟨fuel2, hf2⟩ := h2
  clear hA0 hval0
  simp only [List.append_nil] at hW'
  have hlt : ∀ x ∈ p1 ++ p2, x.block < W.heap.size := fun x hx => by simpa using hW'.lt x (by simpa using hx)
  obtain ⟨n1, rfl⟩ := okWide_int Try.underlying3 (hval 0 3 v1 rfl rfl)
  obtain ⟨ops, hr2, hb2⟩ := Pool.rowAt_of_trod (f := Pool.opCells) Try.underlying25 Pool.cellsOp (by decide) Pool.op_len Pool.open50 rfl hf2
  have hbig2 : ops.length ≤ 9000000000000000000 := by
    rcases hb2 with h0 | ⟨elems, spare, rfl, he⟩
    · rw [h0]; decide
    · have := sized_slice hsz (j := 1) (t := 25) (e := 50) rfl rfl Try.underlying25
      rw [Pool.bytesOp, he] at this
      simp only [reachBytes] at this
      omega
  refine (Pool.poolScripts_calls hr2 hbig2).mono ?_
  rintro e W' ⟨rfl, hu⟩
  have hb := hu.below
  refine ⟨_, rfl, _, _, _, [], p1 ++ p2, [], hW', trodAll_cons_mk (shut_bool Try.underlying4 _) trodAll_mk0, ?_, rfl, hb.frame _, fun h => by cases h⟩
  exact trodAll_mk2 (Below.trod laidOut (by kernel_rfl) (of_decide_eq_true (by kernel_rfl)) h1k hb fun x hx => hlt x (List.mem_append_left _ hx))
    (Below.trod laidOut (by kernel_rfl) (of_decide_eq_true (by kernel_rfl)) h2k hb fun x hx => hlt x (List.mem_append_right _ hx))

theorem over : Rows.poolScriptsRow.holds Try.pinned (OpenSpec.ofChange Rows.poolScriptsSpec) :=
  OpenClaim.holds_of_wide 6 Try.f6 rfl rfl rfl rfl rfl rfl rfl ⟨rfl, rfl, rfl, rfl, rfl⟩ rfl rfl rfl rfl rfl (by kernel_rfl) Try.func6 (by kernel_rfl)
    (of_decide_eq_true (by kernel_rfl)) (by unfold Func.isWrapper; first | (rw [if_pos (by decide +kernel)]; kernel_rfl) | (rw [if_neg (by decide +kernel)]; exact ⟨rfl, rfl⟩))
    (fun os started H enc _ => lifted os started H enc)

/-- THE STATEMENT -/
theorem poolScripts_holds : Rows.PoolScriptsSaid :=
  over
#print axioms poolScripts_holds
end Go.Proofs.Ytaniphdbebdhhaa.poolScripts
