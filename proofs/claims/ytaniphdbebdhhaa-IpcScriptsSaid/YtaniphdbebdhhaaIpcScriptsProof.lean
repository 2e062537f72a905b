/-
  The law IpcScripts returns true, whatever script comes in, and the slice reads behind the call as it read before: the program's bus and the document's answer alike at every step. Condition: none.
-/
import Derived.Test.YtaniphdbebdhhaaRows
import Derived.Test.YtaniphdbebdhhaaJn1
import Derived.Test.YtaniphdbebdhhaaIpG
import Derived.WalkKit
import Derived.ProofKit
import Derived.OpenShut
import Derived.SizedLaws
import Derived.Carry
namespace Go.Proofs.Ytaniphdbebdhhaa.ipcScripts
open Go.ChangeShapes Go.WideShapes Go.ChangeAt Go.RowKit Go.Vk

theorem own : ownKnob Try.prog.godebug = none := by kernel_rfl
theorem laidOut : laidOutB Try.prog = true := by kernel_rfl

set_option maxRecDepth 100000 in
theorem lifted (os : Os) (started : os.Started) (H : Type) (enc : TypeId × Value → H) :
    ReturnsInHanded {} Try.checked os 5 .any (Rows.ipcScriptsSpec.pre6 enc Try.prog Try.f5 Rows.ipcScriptsRow.domain false) (Rows.ipcScriptsSpec.post enc Try.prog Try.f5 false true false false) := by
  refine returnsInHanded_of_change_sized (C := Try.checked) own started (by kernel_rfl) Try.func5
    (ChangeSpec.witness6 (enc := enc) (C := Try.checked) false ⟨#[], #[.slice none 0 0], []⟩ 8 (by kernel_rfl) (by kernel_rfl) (by kernel_rfl) (by kernel_rfl)) ?_
  intro W base args ds gs before hval0 hW _ hsz0 _
  have hsz : (DataW.weightsEach Try.prog (Try.f5.params.toList ++ Rows.ipcScriptsSpec.plain.varTypes Try.prog) (ds ++ gs)).all (· ≤ reachBytes) = true := hsz0
  clear hsz0
  have hval : ∀ (j : Nat) t v, Try.f5.params[j]? = some t → args[j]? = some v → Value.okWide Try.prog W .any base t v := hval0
  have hW' := hW
  obtain ⟨p2, q, hA0, hV, rfl, _, _⟩ := hW
  have hA : DataW.TrodAll enc Try.prog W 0 (fun _ => true) true Try.f5.params.toList args.toList ds p2 := hA0
  rw [Try.params5] at hA hval hsz
  obtain ⟨v2, d2, rfl, rfl, h2⟩ := trodAll_one hA
  obtain ⟨rfl, rfl⟩ := trodVars_none hV
  obtain ⟨a2, len2, cap2, rfl⟩ := okWide_slice Try.underlying25 (hval 0 25 v2 rfl rfl)
  have h2k := h2
  obtain ⟨fuel2, hf2⟩ := h2
  clear hA0 hval0
  simp only [List.append_nil] at hW'
  have hlt : ∀ x ∈ p2, x.block < W.heap.size := fun x hx => by simpa using hW'.lt x (by simpa using hx)
  obtain ⟨ops, hr2, hb2⟩ := rowAt_of_trod (f := opCells) Try.underlying25 cells50 (by decide) op_len open50 rfl hf2
  have hbig2 : ops.length ≤ 9000000000000000000 := by
    rcases hb2 with h0 | ⟨elems, spare, rfl, he⟩
    · rw [h0]; decide
    · have := sized_slice hsz (j := 0) (t := 25) (e := 50) rfl rfl Try.underlying25
      rw [bytes50, he] at this
      simp only [reachBytes] at this
      omega
  refine (Ipc.ipcScripts_calls hr2 hbig2).mono ?_
  rintro e W' ⟨rfl, hu⟩
  have hb := hu.below
  refine ⟨_, rfl, _, _, _, [], p2, [], hW', trodAll_cons_mk (shut_bool Try.underlying4 _) trodAll_mk0, ?_, rfl, hb.frame _, fun h => by cases h⟩
  exact trodAll_mk1 (Below.trod laidOut (by kernel_rfl) (of_decide_eq_true (by kernel_rfl)) h2k hb fun x hx => hlt x hx)

theorem over : Rows.ipcScriptsRow.holds Try.pinned (OpenSpec.ofChange Rows.ipcScriptsSpec) :=
  OpenClaim.holds_of_wide 5 Try.f5 rfl rfl rfl rfl rfl rfl rfl ⟨rfl, rfl, rfl, rfl, rfl⟩ rfl rfl rfl rfl rfl (by kernel_rfl) Try.func5 (by kernel_rfl)
    (of_decide_eq_true (by kernel_rfl)) (by unfold Func.isWrapper; first | (rw [if_pos (by decide +kernel)]; kernel_rfl) | (rw [if_neg (by decide +kernel)]; exact ⟨rfl, rfl⟩))
    (fun os started H enc _ => lifted os started H enc)

/-- THE STATEMENT -/
theorem ipcScripts_holds : Rows.IpcScriptsSaid :=
  over
#print axioms ipcScripts_holds
end Go.Proofs.Ytaniphdbebdhhaa.ipcScripts
