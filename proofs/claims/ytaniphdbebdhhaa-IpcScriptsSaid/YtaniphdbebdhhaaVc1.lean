/-
  The conditions that some functions come to, written by a program of this session's (vc.py) off the loaded dump; the kernel holds each against W. No condition.
-/
import Derived.Test.YtaniphdbebdhhaaProg
import Derived.Test.YtaniphdbebdhhaaVkW
import Derived.Test.YtaniphdbebdhhaaVc0
namespace Go.Proofs.Ytaniphdbebdhhaa
open Go.Vk
set_option maxRecDepth 100000
set_option linter.unusedVariables false

/-- slices.DeleteFunc[[]int,int] -/
def vc136 (R : Ending → World → Prop) (t0 t1 : Value) (w : World) : Prop :=
  callK Try.prog 148 #[t0, t1] w fun t10 w =>
  opK Try.prog (.binOp .eql 3 (.const t10) (.const (.int .i64 (-1))) 3) 4 w fun t12 w =>
  boolK t12
    (R (.returned t0) w)
    (opK Try.prog (.binOp .add 3 (.const t10) (.const (.int .i64 1)) 3) 3 w fun t15 w =>
    (loopK 2 (fun (N1 : Value → Value → World → Prop) (t5 : Value) (t6 : Value) (w : World) =>
      opK Try.prog (.call ⟨(.builtin .len), #[(.const t0)], #[69]⟩) 3 w fun t18 w =>
      opK Try.prog (.binOp .lss 3 (.const t6) (.const t18) 3) 4 w fun t19 w =>
      boolK t19
        (joinK 1 (fun (M2 : Value → World → Prop) =>
          opK Try.prog (.indexAddr 69 (.const t0) (.const t6)) 0 w fun t24 w =>
          ld1 t24 w fun t25 w =>
          opK Try.prog (.call ⟨(.value (.const t1)), #[(.const t25)], #[3]⟩) 4 w fun t28 w =>
          opK Try.prog (.unOp .not 4 (.const t28)) 4 w fun t29 w =>
          boolK t29
            (opK Try.prog (.indexAddr 69 (.const t0) (.const t5)) 0 w fun t33 w =>
            st1 t33 t25 w fun _ w =>
            opK Try.prog (.binOp .add 3 (.const t5) (.const (.int .i64 1)) 3) 3 w fun t35 w =>
            M2 t35 w)
            (M2 t5 w))
          (fun (t5_1 : Value) (w : World) =>
          opK Try.prog (.binOp .add 3 (.const t6) (.const (.int .i64 1)) 3) 3 w fun t21 w =>
          N1 t5_1 t21 w))
        (opK Try.prog (.slice 69 (.const t0) (some (.const t5)) none none) 69 w fun t38 w =>
        opK Try.prog (.call ⟨(.builtin .clear), #[(.const t38)], #[69]⟩) 0 w fun _ w =>
        opK Try.prog (.slice 69 (.const t0) none (some (.const t5)) none) 69 w fun t41 w =>
        R (.returned t41) w)) : Value → Value → World → Prop) t10 t15 w)
def an136 : Ann := (.seq none .no (.seq none .no (.seq none (.seq none .no (.two (.seq none .no .no) .no)) (.seq none (.seq none .no (.one (.loop [5, 6] (.seq none (.seq none .no (.two .no .no)) (.seq (some [5]) (.one (.seq none .no (.seq none .no (.two (.seq none .no .no) .no)))) .no))))) (.seq none .no (.seq none .no .no))))))
theorem vw136 (R : Ending → World → Prop) (t0 t1 : Value) (w : World) : W Try.prog Try.f136.ntmps (bodyOf Try.f136) an136 ⟨retK Try.prog Try.f136.results.toList fun v w => R (.returned v) w, retK Try.prog Try.f136.results.toList fun v w => R (.returned v) w, []⟩ (args0 0 [t0, t1]) w = vc136 R t0 t1 w := by kernel_rfl
theorem vk136 {R : Ending → World → Prop} {t0 t1 : Value} {w : World} (h : vc136 R t0 t1 w) : Calls Try.prog 136 #[t0, t1] w R :=
  calls_of_W mixed (fn := Try.f136) (c := bodyOf Try.f136) (by kernel_rfl) (by kernel_rfl) an136 (args := [t0, t1]) (by kernel_rfl) (by rw [vw136]; exact h)

/-- slices.IndexFunc[[]int,int] -/
def vc148 (R : Ending → World → Prop) (t0 t1 : Value) (w : World) : Prop :=
  opK Try.prog (.call ⟨(.builtin .len), #[(.const t0)], #[69]⟩) 3 w fun t7 w =>
  (loopK 1 (fun (N1 : Value → World → Prop) (t8 : Value) (w : World) =>
    opK Try.prog (.binOp .lss 3 (.const t8) (.const t7) 3) 0 w fun t9 w =>
    boolK t9
      (opK Try.prog (.indexAddr 69 (.const t0) (.const t8)) 0 w fun t14 w =>
      ld1 t14 w fun t15 w =>
      opK Try.prog (.call ⟨(.value (.const t1)), #[(.const t15)], #[3]⟩) 4 w fun t16 w =>
      boolK t16
        (R (.returned t8) w)
        (opK Try.prog (.binOp .add 3 (.const t8) (.const (.int .i64 1)) 3) 3 w fun t18 w =>
        N1 t18 w))
      (R (.returned (.int .i64 (-1))) w)) : Value → World → Prop) (.int .i64 0) w
def an148 : Ann := (.seq none .no (.seq none (.seq none .no (.one (.loop [8] (.seq none .no (.seq none (.two .no .no) (.seq none (.one (.seq none .no (.seq none .no (.two (.seq none .no .no) .no)))) .no)))))) (.seq none .no .no)))
theorem vw148 (R : Ending → World → Prop) (t0 t1 : Value) (w : World) : W Try.prog Try.f148.ntmps (bodyOf Try.f148) an148 ⟨retK Try.prog Try.f148.results.toList fun v w => R (.returned v) w, retK Try.prog Try.f148.results.toList fun v w => R (.returned v) w, []⟩ (args0 0 [t0, t1]) w = vc148 R t0 t1 w := by kernel_rfl
theorem vk148 {R : Ending → World → Prop} {t0 t1 : Value} {w : World} (h : vc148 R t0 t1 w) : Calls Try.prog 148 #[t0, t1] w R :=
  calls_of_W mixed (fn := Try.f148) (c := bodyOf Try.f148) (by kernel_rfl) (by kernel_rfl) an148 (args := [t0, t1]) (by kernel_rfl) (by rw [vw148]; exact h)

end Go.Proofs.Ytaniphdbebdhhaa
