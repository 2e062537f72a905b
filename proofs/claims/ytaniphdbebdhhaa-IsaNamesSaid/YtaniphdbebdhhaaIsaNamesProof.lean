/-
  The law IsaNames returns true, whatever the world: the numbers of package api and the three names are the document's. Condition: none. (By the kernel's own run of the closed call.)
  THE SHELL OF A PROOF OF 'Rows.IsaNamesSaid' ('vault/vaultlaw.IsaNames'), WRITTEN BY PROGRAM (proof-skeleton.mjs) off the guide's own print for that function. Not trusted: Lean checks it.
  YOURS ARE THE HOLES MARKED 'HOLE' (each bears 'sorry'). ALL ELSE IS THE GUIDE's TEMPLATE (howto/template/XProofs.lean) at this function's number and types: leave it.
-/
import Derived.Test.YtaniphdbebdhhaaRows
import Derived.WalkKit
import Derived.ProofKit
import Derived.OpenShut
namespace Go.Proofs.Ytaniphdbebdhhaa.isaNames
open Go.ChangeShapes Go.WideShapes Go.ChangeAt Go.RowKit
set_option linter.unusedVariables false      -- a walk need not use every 'w<i>' (that an integer argument fits its kind)

theorem own : ownKnob Try.prog.godebug = none := by kernel_rfl

/-- The machine when function f is about to return (f calls itself nowhere). -/
def goTo (P : Program) (f : FuncId) : Nat → Machine → Option Machine
  | 0, _ => none
  | k + 1, m => match (m.gs[0]?).map (fun g => (g.frame.fn == f, g.frame.mode)) with
    | some (true, FrameMode.returning) => some m
    | _ => match step P m with
      | .next m' => goTo P f k m'
      | _ => none

theorem goTo_steps (P : Program) (f : FuncId) : ∀ (k : Nat) (m m' : Machine), goTo P f k m = some m' → Steps P m m'
  | 0, _, _, h => by simp [goTo] at h
  | k + 1, m, m', h => by
    unfold goTo at h
    split at h
    · cases h; exact Steps.refl _ _
    · split at h
      · rename_i m1 h1
        exact Steps.head h1 (goTo_steps P f k _ _ h)
      · cases h

def frameOf (o : Option Machine) : Frame := match o with
  | some m => match m.gs[0]? with
    | some g => g.frame
    | none => default
  | none => default

/-- A call that hangs on nothing: the kernel runs it, over whatever world. -/
theorem calls_closed {P : Program} {f : FuncId} {fn : Func} {args : Array Value} {fr : Frame} {v : Value} (k : Nat) (hf : P.funcs[f]? = some fn)
    (h : ∀ cs w, goTo P f k (lone (Frame.enter P f args .normal) cs w) = some (lone fr cs w)) (hm : fr.mode = .returning) (hd : fr.defers = []) (hk : fr.kind = .normal) (hfn : fr.fn = f)
    (hr : ∀ w, (results fn fr.tmps).run P w = .ok v w) (w : World) : Calls P f args w fun e w' => e = .returned v ∧ w = w' := by
  intro cs
  exact ⟨.returned v, w, fr, ⟨rfl, rfl⟩, goTo_steps P f k _ _ (h cs w), hfn, hm, hd, hk, fn, by rw [hfn]; exact hf, hr w⟩

noncomputable def fr3 : Frame := frameOf (goTo Try.prog 3 2000 (lone (Frame.enter Try.prog 3 #[] .normal) [] default))

/-! ### STEP 1: THE WALK: the Go text returns true. -/
theorem walk (w : World) :
    Calls Try.prog 3 #[] w fun e w' => e = .returned (.bool true) ∧ Grown w w' :=
  (calls_closed (fr := fr3) (fn := Try.f3) 2000 (by kernel_rfl) (fun cs w => by kernel_rfl) (by kernel_rfl) (by kernel_rfl) (by kernel_rfl) (by kernel_rfl) (fun w => by kernel_rfl) w).mono
    fun e w' ⟨h1, h2⟩ => ⟨h1, by subst h2; exact Grown.refl _⟩

/-! ### THE ROW's STEP: WRITTEN OUT: LEAVE IT -/
set_option maxRecDepth 100000 in
theorem lifted (os : Os) (started : os.Started) (H : Type) (enc : TypeId × Value → H) :
    ReturnsInHanded {} Try.checked os 3 .any (Rows.isaNamesSpec.pre6 enc Try.prog Try.f3 Rows.isaNamesRow.domain false) (Rows.isaNamesSpec.post enc Try.prog Try.f3 false true false false) := by
  refine returnsInHanded_of_change (C := Try.checked) own started (by kernel_rfl) Try.func3
    (ChangeSpec.witness6 (enc := enc) (C := Try.checked) false ⟨#[], #[], []⟩ 8 (by kernel_rfl) (by kernel_rfl) (by kernel_rfl) (by kernel_rfl)) ?_
  intro W base args ds gs before hval0 hW hcnd _
  have hval : ∀ (j : Nat) t v, Try.f3.params[j]? = some t → args[j]? = some v → Value.okWide Try.prog W .any base t v := hval0
  have hW' := hW
  obtain ⟨p, q, hA0, hV, rfl, hfz, hnd⟩ := hW
  have hA : DataW.TrodAll enc Try.prog W 0 (fun _ => true) true Try.f3.params.toList args.toList ds p := hA0
  rw [Try.params3] at hA hval
  obtain ⟨rfl, rfl, rfl⟩ := trodAll_none hA
  obtain ⟨rfl, rfl⟩ := trodVars_none hV
  clear hA0 hval0
  simp only [List.append_nil] at hW'
  refine (walk  W).mono fun e W' ⟨he, hg⟩ => ?_
  subst he
  exact ⟨_, rfl, post_of_same (pa := []) (pv := []) hW' (fun _ _ _ => (trodAll_cons_mk (shut_bool Try.underlying4 _) trodAll_mk0)) (fun sp _ => rfl) (fun _ _ => rfl) rfl
    (hg.frame _) hg.2.1 (ok_one (by kernel_rfl) rfl (okWide_bool_mk Try.underlying4 _))⟩

theorem over : Rows.isaNamesRow.holds Try.pinned (OpenSpec.ofChange Rows.isaNamesSpec) :=
  OpenClaim.holds_of_wide 3 Try.f3 rfl rfl rfl rfl rfl rfl rfl ⟨rfl, rfl, rfl, rfl, rfl⟩ rfl rfl rfl rfl rfl (by kernel_rfl) Try.func3 (by kernel_rfl)
    (of_decide_eq_true (by kernel_rfl)) (by unfold Func.isWrapper; first | (rw [if_pos (by decide +kernel)]; kernel_rfl) | (rw [if_neg (by decide +kernel)]; exact ⟨rfl, rfl⟩))
    (fun os started H enc _ => lifted os started H enc)

/-- THE STATEMENT -/
theorem isaNames_holds : Rows.IsaNamesSaid :=
  over
#print axioms isaNames_holds
end Go.Proofs.Ytaniphdbebdhhaa.isaNames
