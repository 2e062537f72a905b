/-
  The conditions that some functions come to, written by a program of this session's (vc.py) off the loaded dump; the kernel holds each against W. No condition.
-/
import Derived.Test.YtaniphdbebdhhaaProg
import Derived.Test.YtaniphdbebdhhaaVkW
namespace Go.Proofs.Ytaniphdbebdhhaa
open Go.Vk
set_option maxRecDepth 100000
set_option linter.unusedVariables false

def bodyOf (f : Func) : Code := f.body.getD .skip
theorem mixed : Try.prog.follows .mixedOrders = true := by kernel_rfl

/-- vault/vaultlaw.SchedScripts -/
def vc4 (R : Ending → World → Prop) (t0 t1 : Value) (w : World) : Prop :=
  callK Try.prog 9 #[t0] w fun t18 w =>
  callK Try.prog 10 #[t18] w fun t21 w =>
  opK Try.prog (.extract (.const t21) 0) 27 w fun t22 w =>
  opK Try.prog (.extract (.const t21) 1) 28 w fun t23 w =>
  callK Try.prog 11 #[t0] w fun t26 w =>
  opK Try.prog (.extract (.const t26) 0) 31 w fun t27 w =>
  opK Try.prog (.extract (.const t26) 1) 28 w fun t28 w =>
  callK Try.prog 12 #[t18, t0] w fun t31 w =>
  opK Try.prog (.unOp .not 4 (.const t31)) 4 w fun t33 w =>
  gK t33 false w (fun K => K t23 w) fun t35 w =>
  gK t33 false w (fun K => K t28 w) fun t36 w =>
  gK t33 false w (fun K => opK Try.prog (.binOp .neq 28 (.const t35) (.const t36) 28) 4 w K) fun t37 w =>
  opK Try.prog (.pick (.const t33) (.const (.bool true)) (.const t37)) 4 w fun t38 w =>
  gK t38 false w (fun K => K t22 w) fun t40 w =>
  gK t38 false w (fun K => opK Try.prog (.binOp .neq 27 (.const t40) (.const (.pointer none)) 27) 4 w K) fun t41 w =>
  gK t38 false w (fun K => K t27 w) fun t42 w =>
  gK t38 false w (fun K => opK Try.prog (.binOp .neq 31 (.const t42) (.const (.pointer none)) 31) 4 w K) fun t43 w =>
  gK t38 false w (fun K => opK Try.prog (.binOp .neq 4 (.const t41) (.const t43) 4) 4 w K) fun t44 w =>
  opK Try.prog (.pick (.const t38) (.const (.bool true)) (.const t44)) 4 w fun t45 w =>
  boolK t45
    (R (.returned (.bool false)) w)
    (opK Try.prog (.build 36 #[(0, (.const (.int .i64 1))), (1, (.const (.int .i64 1)))]) 36 w fun t47 w =>
    opK Try.prog (.buildSlice 24 1 #[(0, (.const t47))]) 24 w fun t48 w =>
    callK Try.prog 10 #[t48] w fun t49 w =>
    opK Try.prog (.extract (.const t49) 0) 27 w fun t50 w =>
    opK Try.prog (.extract (.const t49) 1) 28 w fun t51 w =>
    opK Try.prog (.binOp .eql 27 (.const t50) (.const (.pointer none)) 27) 4 w fun t53 w =>
    gK t53 false w (fun K => K t51 w) fun t55 w =>
    gK t53 false w (fun K => opK Try.prog (.binOp .neq 28 (.const t55) (.const (.int .i64 0)) 28) 4 w K) fun t56 w =>
    opK Try.prog (.pick (.const t53) (.const (.bool true)) (.const t56)) 4 w fun t57 w =>
    boolK t57
      (R (.returned (.bool false)) w)
      (callK Try.prog 13 #[t50, (.int .i64 0), (.int .i64 1), (.int .i64 3)] w fun t59 w =>
      callK Try.prog 14 #[t50, (.int .i64 0)] w fun t61 w =>
      opK Try.prog (.binOp .eql 27 (.const t22) (.const (.pointer none)) 27) 4 w fun t63 w =>
      boolK t63
        (R (.returned (.bool true)) w)
        (opK Try.prog (.build 47 #[]) 47 w fun t64 w =>
        opK Try.prog (.box 47 (.const t64)) 39 w fun t65 w =>
        (loopK 1 (fun (N1 : Value → World → Prop) (t13 : Value) (w : World) =>
          opK Try.prog (.call ⟨(.builtin .len), #[(.const t1)], #[25]⟩) 3 w fun t68 w =>
          opK Try.prog (.binOp .lss 3 (.const t13) (.const t68) 3) 4 w fun t69 w =>
          gK t69 true w (fun K => K t13 w) fun t71 w =>
          gK t69 true w (fun K => opK Try.prog (.binOp .lss 3 (.const t71) (.const (.int .i64 262144)) 3) 4 w K) fun t72 w =>
          opK Try.prog (.pick (.const t69) (.const t72) (.const (.bool false))) 4 w fun t73 w =>
          boolK t73
            (opK Try.prog (.indexAddr 25 (.const t1) (.const t13)) 0 w fun t81 w =>
            ldn 6 t81 w fun t82 w =>
            callK Try.prog 15 #[t22, t27, t65, t82] w fun t83 w =>
            opK Try.prog (.unOp .not 4 (.const t83)) 4 w fun t85 w =>
            boolK t85
              (R (.returned (.bool false)) w)
              (opK Try.prog (.binOp .add 3 (.const t13) (.const (.int .i64 1)) 3) 3 w fun t75 w =>
              N1 t75 w))
            ((loopK 1 (fun (N2 : Value → World → Prop) (t14 : Value) (w : World) =>
              opK Try.prog (.binOp .lss 3 (.const t14) (.const (.int .i64 8)) 3) 4 w fun t87 w =>
              boolK t87
                ((loopK 1 (fun (N3 : Value → World → Prop) (t15 : Value) (w : World) =>
                  opK Try.prog (.binOp .lss 3 (.const t15) (.const (.int .i64 8)) 3) 4 w fun t91 w =>
                  boolK t91
                    (opK Try.prog (.binOp .add 3 (.const t14) (.const (.int .i64 1)) 3) 3 w fun t98 w =>
                    opK Try.prog (.binOp .add 3 (.const t15) (.const (.int .i64 1)) 3) 3 w fun t100 w =>
                    opK Try.prog (.build 50 #[(0, (.const (.int .i64 9))), (1, (.const t98)), (2, (.const t100))]) 50 w fun t101 w =>
                    callK Try.prog 15 #[t22, t27, t65, t101] w fun t102 w =>
                    opK Try.prog (.unOp .not 4 (.const t102)) 4 w fun t104 w =>
                    boolK t104
                      (R (.returned (.bool false)) w)
                      (opK Try.prog (.binOp .add 3 (.const t15) (.const (.int .i64 1)) 3) 3 w fun t93 w =>
                      N3 t93 w))
                    (opK Try.prog (.binOp .add 3 (.const t14) (.const (.int .i64 1)) 3) 3 w fun t89 w =>
                    N2 t89 w)) : Value → World → Prop) (.int .i64 0) w)
                (callK Try.prog 16 #[t65] w fun t106 w =>
                callK Try.prog 17 #[t50] w fun t108 w =>
                gK t106 true w (fun K => K t108 w) fun t111 w =>
                gK t106 true w (fun K => opK Try.prog (.binOp .eql 3 (.const t111) (.const (.int .i64 0)) 3) 4 w K) fun t112 w =>
                opK Try.prog (.pick (.const t106) (.const t112) (.const (.bool false))) 4 w fun t113 w =>
                R (.returned t113) w)) : Value → World → Prop) (.int .i64 0) w)) : Value → World → Prop) (.int .i64 0) w)))
def an4 : Ann := (.cut [0, 1] .no (.cut [0, 1, 5] .no (.cut [0, 1, 5, 6, 7] .no (.cut [0, 1, 5, 6, 7, 8, 9] .no (.cut [1, 6, 7, 8, 9, 10] .no (.cut [1, 6, 8] (.cut [1, 6, 8, 45] .no (.two (.cut [4] .no .no) .no)) (.cut [1, 6, 7, 8, 11] .no (.cut [1, 6, 8, 11] (.cut [1, 6, 8, 11, 57] .no (.two (.cut [4] .no .no) .no)) (.cut [1, 6, 8, 11] .no (.cut [1, 6, 8, 11] .no (.cut [1, 6, 8, 11] (.cut [1, 6, 8, 11, 63] .no (.two (.cut [4] .no .no) .no)) (.cut [1, 6, 8, 11, 12] .no (.cut [6, 8, 11, 12] (.cut [1, 6, 8, 11, 12, 13] .no (.one (.loop [13] (.cut [1, 6, 8, 11, 12, 13] (.cut [1, 6, 8, 11, 12, 13, 73] .no (.two .no .no)) (.cut [1, 6, 8, 11, 12, 13] (.one (.cut [1, 6, 8, 10, 11, 12, 13] .no (.cut [1, 6, 8, 11, 12, 13, 85] .no (.two (.cut [4] .no .no) .no)))) .no))))) (.cut [11, 12] (.cut [6, 8, 11, 12, 14] .no (.one (.loop [14] (.cut [6, 8, 11, 12, 14] (.cut [6, 8, 11, 12, 14, 87] .no (.two .no .no)) (.cut [6, 8, 11, 12, 14] (.one (.cut [6, 8, 11, 12, 14, 15] .no (.one (.loop [15] (.cut [6, 8, 11, 12, 14, 15] (.cut [6, 8, 11, 12, 14, 15, 91] .no (.two .no .no)) (.cut [6, 8, 11, 12, 14, 15] (.one (.cut [6, 8, 10, 11, 12, 14, 15] .no (.cut [6, 8, 11, 12, 14, 15, 104] .no (.two (.cut [4] .no .no) .no)))) .no)))))) .no))))) (.cut [10, 11] .no (.cut [10, 16] .no (.cut [4] .no .no)))))))))))))))))
theorem vw4 (R : Ending → World → Prop) (t0 t1 : Value) (w : World) : W Try.prog Try.f4.ntmps (bodyOf Try.f4) an4 ⟨retK Try.prog Try.f4.results.toList fun v w => R (.returned v) w, retK Try.prog Try.f4.results.toList fun v w => R (.returned v) w, []⟩ (args0 0 [t0, t1]) w = vc4 R t0 t1 w := by kernel_rfl
theorem vk4 {R : Ending → World → Prop} {t0 t1 : Value} {w : World} (h : vc4 R t0 t1 w) : Calls Try.prog 4 #[t0, t1] w R :=
  calls_of_W mixed (fn := Try.f4) (c := bodyOf Try.f4) (by kernel_rfl) (by kernel_rfl) an4 (args := [t0, t1]) (by kernel_rfl) (by rw [vw4]; exact h)

/-- vault/vaultlaw.lent -/
def vc9 (R : Ending → World → Prop) (t0 : Value) (w : World) : Prop :=
  opK Try.prog (.call ⟨(.builtin .len), #[(.const t0)], #[24]⟩) 3 w fun t5 w =>
  opK Try.prog (.binOp .add 3 (.const t5) (.const (.int .i64 2)) 3) 3 w fun t6 w =>
  opK Try.prog (.makeSlice 24 (.const t6) (.const t6)) 24 w fun t7 w =>
  opK Try.prog (.call ⟨(.builtin .copy), #[(.const t7), (.const t0)], #[24, 24]⟩) 3 w fun t10 w =>
  opK Try.prog (.call ⟨(.builtin .len), #[(.const t0)], #[24]⟩) 3 w fun t13 w =>
  opK Try.prog (.build 36 #[(0, (.const (.int .i64 7))), (1, (.const (.int .i64 999)))]) 36 w fun t14 w =>
  opK Try.prog (.indexAddr 24 (.const t7) (.const t13)) 0 w fun t15 w =>
  stn 2 t15 t14 w fun _ w =>
  opK Try.prog (.call ⟨(.builtin .len), #[(.const t0)], #[24]⟩) 3 w fun t18 w =>
  opK Try.prog (.slice 24 (.const t7) none (some (.const t18)) none) 24 w fun t19 w =>
  R (.returned t19) w
def an9 : Ann := (.seq none .no (.seq none .no (.seq none .no (.seq none .no (.seq none .no .no)))))
theorem vw9 (R : Ending → World → Prop) (t0 : Value) (w : World) : W Try.prog Try.f9.ntmps (bodyOf Try.f9) an9 ⟨retK Try.prog Try.f9.results.toList fun v w => R (.returned v) w, retK Try.prog Try.f9.results.toList fun v w => R (.returned v) w, []⟩ (args0 0 [t0]) w = vc9 R t0 w := by kernel_rfl
theorem vk9 {R : Ending → World → Prop} {t0 : Value} {w : World} (h : vc9 R t0 w) : Calls Try.prog 9 #[t0] w R :=
  calls_of_W mixed (fn := Try.f9) (c := bodyOf Try.f9) (by kernel_rfl) (by kernel_rfl) an9 (args := [t0]) (by kernel_rfl) (by rw [vw9]; exact h)

/-- vault/sched.New -/
def vc10 (R : Ending → World → Prop) (t0 : Value) (w : World) : Prop :=
  opK Try.prog (.call ⟨(.builtin .len), #[(.const t0)], #[24]⟩) 3 w fun t7 w =>
  opK Try.prog (.binOp .lss 3 (.const t7) (.const (.int .i64 1)) 3) 4 w fun t8 w =>
  gK t8 false w (fun K => K t0 w) fun t10 w =>
  gK t8 false w (fun K => opK Try.prog (.call ⟨(.builtin .len), #[(.const t10)], #[24]⟩) 3 w K) fun t11 w =>
  gK t8 false w (fun K => opK Try.prog (.binOp .gtr 3 (.const t11) (.const (.int .i64 16)) 3) 4 w K) fun t12 w =>
  opK Try.prog (.pick (.const t8) (.const (.bool true)) (.const t12)) 4 w fun t13 w =>
  boolK t13
    (R (.returned (.tuple #[(.pointer none), (.int .i64 1)])) w)
    (opK Try.prog (.call ⟨(.builtin .len), #[(.const t0)], #[24]⟩) 3 w fun t15 w =>
    (loopK 1 (fun (N1 : Value → World → Prop) (t16 : Value) (w : World) =>
      opK Try.prog (.binOp .lss 3 (.const t16) (.const t15) 3) 0 w fun t17 w =>
      boolK t17
        (opK Try.prog (.indexAddr 24 (.const t0) (.const t16)) 0 w fun t18 w =>
        ldn 2 t18 w fun t19 w =>
        opK Try.prog (.alloc 36) 0 w fun t5 w =>
        stn 2 t5 t19 w fun _ w =>
        opK Try.prog (.fieldAddr 36 (.const t5) 0) 0 w fun t20 w =>
        ld1 t20 w fun t21 w =>
        opK Try.prog (.binOp .lss 3 (.const t21) (.const (.int .i64 0)) 3) 4 w fun t22 w =>
        gK t22 false w (fun K => opK Try.prog (.fieldAddr 36 (.const t5) 0) 0 w K) fun t24 w =>
        gK t22 false w (fun K => ld1 t24 w K) fun t25 w =>
        gK t22 false w (fun K => opK Try.prog (.binOp .geq 3 (.const t25) (.const (.int .i64 8)) 3) 4 w K) fun t26 w =>
        opK Try.prog (.pick (.const t22) (.const (.bool true)) (.const t26)) 4 w fun t27 w =>
        gK t27 false w (fun K => opK Try.prog (.fieldAddr 36 (.const t5) 1) 0 w K) fun t29 w =>
        gK t27 false w (fun K => ld1 t29 w K) fun t30 w =>
        gK t27 false w (fun K => opK Try.prog (.binOp .lss 3 (.const t30) (.const (.int .i64 1)) 3) 4 w K) fun t31 w =>
        opK Try.prog (.pick (.const t27) (.const (.bool true)) (.const t31)) 4 w fun t32 w =>
        gK t32 false w (fun K => opK Try.prog (.fieldAddr 36 (.const t5) 1) 0 w K) fun t34 w =>
        gK t32 false w (fun K => ld1 t34 w K) fun t35 w =>
        gK t32 false w (fun K => opK Try.prog (.binOp .gtr 3 (.const t35) (.const (.int .i64 1000)) 3) 4 w K) fun t36 w =>
        opK Try.prog (.pick (.const t32) (.const (.bool true)) (.const t36)) 4 w fun t37 w =>
        boolK t37
          (R (.returned (.tuple #[(.pointer none), (.int .i64 1)])) w)
          (opK Try.prog (.binOp .add 3 (.const t16) (.const (.int .i64 1)) 3) 3 w fun t38 w =>
          N1 t38 w))
        (joinK 2 (fun (M2 : Value → Value → World → Prop) =>
          stK Try.prog (.indexAddr 24 (.const t0) (.const (.int .i64 0))) 0 w.drew fun t42 =>
          stK Try.prog (.fieldAddr 36 (.const t42) 1) 0 w.drew fun t43 =>
          ld1 t43 w.drew fun t44 _ =>
          (callK Try.prog 32 #[t0] w.drew fun t40 w =>
          (ld1 t43 w fun v _ => v = t44) ∧
          (stK Try.prog (.fieldAddr 36 (.const t42) 1) 0 w fun v => v = t43) ∧
          (stK Try.prog (.indexAddr 24 (.const t0) (.const (.int .i64 0))) 0 w fun v => v = t42) ∧
          opK Try.prog (.makeMap 92 none) 92 w fun t45 w =>
          (ld1 t43 w fun v _ => v = t44) ∧
          (stK Try.prog (.fieldAddr 36 (.const t42) 1) 0 w fun v => v = t43) ∧
          (stK Try.prog (.indexAddr 24 (.const t0) (.const (.int .i64 0))) 0 w fun v => v = t42) ∧
          stK Try.prog (.build 99 #[(0, (.const t40)), (2, (.const t44)), (3, (.const t45))]) 99 w fun t46 =>
          opK Try.prog (.box 99 (.const t46)) 27 w fun t47 w =>
          M2 t47 (.int .i64 0) w) ∧
          (opK Try.prog (.makeMap 92 none) 92 w.drew fun t45_1 w =>
          (ld1 t43 w fun v _ => v = t44) ∧
          (stK Try.prog (.fieldAddr 36 (.const t42) 1) 0 w fun v => v = t43) ∧
          (stK Try.prog (.indexAddr 24 (.const t0) (.const (.int .i64 0))) 0 w fun v => v = t42) ∧
          callK Try.prog 32 #[t0] w fun t40_1 w =>
          (ld1 t43 w fun v _ => v = t44) ∧
          (stK Try.prog (.fieldAddr 36 (.const t42) 1) 0 w fun v => v = t43) ∧
          (stK Try.prog (.indexAddr 24 (.const t0) (.const (.int .i64 0))) 0 w fun v => v = t42) ∧
          stK Try.prog (.build 99 #[(0, (.const t40_1)), (2, (.const t44)), (3, (.const t45_1))]) 99 w fun t46_1 =>
          opK Try.prog (.box 99 (.const t46_1)) 27 w fun t47_1 w =>
          M2 t47_1 (.int .i64 0) w))
          (fun (t2 : Value) (t3 : Value) (w : World) =>
          R (.returned (.tuple #[t2, t3])) w))) : Value → World → Prop) (.int .i64 0) w)
def an10 : Ann := (.seq none .no (.seq none (.seq none .no (.two (.seq none .no .no) .no)) (.seq none (.seq none .no (.one (.loop [16] (.seq none .no (.seq none (.two .no .no) (.seq none (.one (.seq none .no (.seq none .no (.two (.seq none .no .no) .no)))) .no)))))) (.seq none (.tree (some [2, 3]) (.seg [0, 2, 3, 4, 5] (.alt (.eff 1 [] (.seg [] (.eff 6 [] (.seg [7] (.eff 8 [3, 4, 5, 7] (.seg [9, 10] .fin)))))) (.eff 6 [] (.seg [] (.eff 1 [] (.seg [7] (.eff 8 [3, 4, 5, 7] (.seg [9, 10] .fin))))))))) .no))))
theorem vw10 (R : Ending → World → Prop) (t0 : Value) (w : World) : W Try.prog Try.f10.ntmps (bodyOf Try.f10) an10 ⟨retK Try.prog Try.f10.results.toList fun v w => R (.returned v) w, retK Try.prog Try.f10.results.toList fun v w => R (.returned v) w, []⟩ (args0 0 [t0]) w = vc10 R t0 w := by kernel_rfl
theorem vk10 {R : Ending → World → Prop} {t0 : Value} {w : World} (h : vc10 R t0 w) : Calls Try.prog 10 #[t0] w R :=
  calls_of_W mixed (fn := Try.f10) (c := bodyOf Try.f10) (by kernel_rfl) (by kernel_rfl) an10 (args := [t0]) (by kernel_rfl) (by rw [vw10]; exact h)

/-- vault/vaultref.NewSched -/
def vc11 (R : Ending → World → Prop) (t0 : Value) (w : World) : Prop :=
  opK Try.prog (.call ⟨(.builtin .len), #[(.const t0)], #[24]⟩) 3 w fun t8 w =>
  opK Try.prog (.binOp .lss 3 (.const t8) (.const (.int .i64 1)) 3) 4 w fun t9 w =>
  gK t9 false w (fun K => K t0 w) fun t11 w =>
  gK t9 false w (fun K => opK Try.prog (.call ⟨(.builtin .len), #[(.const t11)], #[24]⟩) 3 w K) fun t12 w =>
  gK t9 false w (fun K => opK Try.prog (.binOp .gtr 3 (.const t12) (.const (.int .i64 16)) 3) 4 w K) fun t13 w =>
  opK Try.prog (.pick (.const t9) (.const (.bool true)) (.const t13)) 4 w fun t14 w =>
  boolK t14
    (R (.returned (.tuple #[(.pointer none), (.int .i64 1)])) w)
    ((loopK 1 (fun (N1 : Value → World → Prop) (t4 : Value) (w : World) =>
      opK Try.prog (.call ⟨(.builtin .len), #[(.const t0)], #[24]⟩) 3 w fun t17 w =>
      opK Try.prog (.binOp .lss 3 (.const t4) (.const t17) 3) 4 w fun t18 w =>
      boolK t18
        (opK Try.prog (.indexAddr 24 (.const t0) (.const t4)) 0 w fun t23 w =>
        ldn 2 t23 w fun t24 w =>
        opK Try.prog (.alloc 36) 0 w fun t5 w =>
        stn 2 t5 t24 w fun _ w =>
        opK Try.prog (.fieldAddr 36 (.const t5) 0) 0 w fun t25 w =>
        ld1 t25 w fun t26 w =>
        opK Try.prog (.binOp .lss 3 (.const t26) (.const (.int .i64 0)) 3) 4 w fun t27 w =>
        gK t27 false w (fun K => opK Try.prog (.fieldAddr 36 (.const t5) 0) 0 w K) fun t29 w =>
        gK t27 false w (fun K => ld1 t29 w K) fun t30 w =>
        gK t27 false w (fun K => opK Try.prog (.binOp .gtr 3 (.const t30) (.const (.int .i64 7)) 3) 4 w K) fun t31 w =>
        opK Try.prog (.pick (.const t27) (.const (.bool true)) (.const t31)) 4 w fun t32 w =>
        gK t32 false w (fun K => opK Try.prog (.fieldAddr 36 (.const t5) 1) 0 w K) fun t34 w =>
        gK t32 false w (fun K => ld1 t34 w K) fun t35 w =>
        gK t32 false w (fun K => opK Try.prog (.binOp .lss 3 (.const t35) (.const (.int .i64 1)) 3) 4 w K) fun t36 w =>
        opK Try.prog (.pick (.const t32) (.const (.bool true)) (.const t36)) 4 w fun t37 w =>
        gK t37 false w (fun K => opK Try.prog (.fieldAddr 36 (.const t5) 1) 0 w K) fun t39 w =>
        gK t37 false w (fun K => ld1 t39 w K) fun t40 w =>
        gK t37 false w (fun K => opK Try.prog (.binOp .gtr 3 (.const t40) (.const (.int .i64 1000)) 3) 4 w K) fun t41 w =>
        opK Try.prog (.pick (.const t37) (.const (.bool true)) (.const t41)) 4 w fun t42 w =>
        boolK t42
          (R (.returned (.tuple #[(.pointer none), (.int .i64 1)])) w)
          (opK Try.prog (.binOp .add 3 (.const t4) (.const (.int .i64 1)) 3) 3 w fun t20 w =>
          N1 t20 w))
        (opK Try.prog (.indexAddr 24 (.const t0) (.const (.int .i64 0))) 0 w fun t44 w =>
        opK Try.prog (.fieldAddr 36 (.const t44) 1) 0 w fun t45 w =>
        ld1 t45 w fun t46 w =>
        opK Try.prog (.build 102 #[(2, (.const t46))]) 102 w fun t47 w =>
        opK Try.prog (.box 102 (.const t47)) 31 w fun t48 w =>
        opK Try.prog (.nilCheck (.const t48)) 0 w fun t51 w =>
        opK Try.prog (.fieldAddr 102 (.const t51) 0) 0 w fun t52 w =>
        ld1 t52 w fun t53 w =>
        opK Try.prog (.call ⟨(.builtin .append), #[(.const t53), (.const t0)], #[24, 24]⟩) 24 w fun t55 w =>
        opK Try.prog (.nilCheck (.const t48)) 0 w fun t56 w =>
        opK Try.prog (.fieldAddr 102 (.const t56) 0) 0 w fun t57 w =>
        st1 t57 t55 w fun _ w =>
        R (.returned (.tuple #[t48, (.int .i64 0)])) w)) : Value → World → Prop) (.int .i64 0) w)
def an11 : Ann := (.seq none .no (.seq none (.seq none .no (.two (.seq none .no .no) .no)) (.seq none (.seq none .no (.one (.loop [4] (.seq none (.seq none .no (.two .no .no)) (.seq none (.one (.seq none .no (.seq none .no (.two (.seq none .no .no) .no)))) .no))))) (.seq none .no (.seq none .no (.seq none .no .no))))))
theorem vw11 (R : Ending → World → Prop) (t0 : Value) (w : World) : W Try.prog Try.f11.ntmps (bodyOf Try.f11) an11 ⟨retK Try.prog Try.f11.results.toList fun v w => R (.returned v) w, retK Try.prog Try.f11.results.toList fun v w => R (.returned v) w, []⟩ (args0 0 [t0]) w = vc11 R t0 w := by kernel_rfl
theorem vk11 {R : Ending → World → Prop} {t0 : Value} {w : World} (h : vc11 R t0 w) : Calls Try.prog 11 #[t0] w R :=
  calls_of_W mixed (fn := Try.f11) (c := bodyOf Try.f11) (by kernel_rfl) (by kernel_rfl) an11 (args := [t0]) (by kernel_rfl) (by rw [vw11]; exact h)

/-- vault/vaultlaw.still -/
def vc12 (R : Ending → World → Prop) (t0 t1 : Value) (w : World) : Prop :=
  opK Try.prog (.call ⟨(.builtin .len), #[(.const t1)], #[24]⟩) 3 w fun t9 w =>
  opK Try.prog (.binOp .add 3 (.const t9) (.const (.int .i64 1)) 3) 3 w fun t10 w =>
  opK Try.prog (.slice 24 (.const t0) none (some (.const t10)) none) 24 w fun t11 w =>
  opK Try.prog (.call ⟨(.builtin .len), #[(.const t1)], #[24]⟩) 3 w fun t13 w =>
  opK Try.prog (.indexAddr 24 (.const t11) (.const t13)) 0 w fun t14 w =>
  ldn 2 t14 w fun t15 w =>
  opK Try.prog (.build 36 #[(0, (.const (.int .i64 7))), (1, (.const (.int .i64 999)))]) 36 w fun t16 w =>
  opK Try.prog (.binOp .eql 36 (.const t15) (.const t16) 36) 4 w fun t17 w =>
  (loopK 2 (fun (N1 : Value → Value → World → Prop) (t5 : Value) (t6 : Value) (w : World) =>
    opK Try.prog (.call ⟨(.builtin .len), #[(.const t1)], #[24]⟩) 3 w fun t20 w =>
    opK Try.prog (.binOp .lss 3 (.const t6) (.const t20) 3) 4 w fun t21 w =>
    boolK t21
      (gS t5 true (fun K => K t0) fun t26 =>
      gS t5 true (fun K => K t6) fun t27 =>
      gS t5 true (fun K => stK Try.prog (.indexAddr 24 (.const t26) (.const t27)) 0 w.drew K) fun t28 =>
      gS t5 true (fun K => ldn 2 t28 w.drew fun v _ => K v) fun t29 =>
      gS t5 true (fun K => K t1) fun t30 =>
      gS t5 true (fun K => K t6) fun t31 =>
      gS t5 true (fun K => stK Try.prog (.indexAddr 24 (.const t30) (.const t31)) 0 w.drew K) fun t32 =>
      gS t5 true (fun K => ldn 2 t32 w.drew fun v _ => K v) fun t33 =>
      gS t5 true (fun K => stK Try.prog (.binOp .eql 36 (.const t29) (.const t33) 36) 4 w.drew K) fun t34 =>
      stK Try.prog (.pick (.const t5) (.const t34) (.const (.bool false))) 4 w.drew fun t35 =>
      opK Try.prog (.build 36 #[(0, (.const (.int .i64 7))), (1, (.const (.int .i64 1)))]) 36 w.drew fun t38 w =>
      opK Try.prog (.indexAddr 24 (.const t0) (.const t6)) 0 w fun t39 w =>
      stn 2 t39 t38 w fun _ w =>
      opK Try.prog (.binOp .add 3 (.const t6) (.const (.int .i64 1)) 3) 3 w fun t23 w =>
      N1 t35 t23 w)
      (R (.returned t5) w)) : Value → Value → World → Prop) t17 (.int .i64 0) w
def an12 : Ann := (.seq none .no (.seq none .no (.seq none (.seq none .no (.one (.loop [5, 6] (.seq none (.seq none .no (.two .no .no)) (.seq none (.one (.seq none (.draw 13) .no)) .no))))) (.seq none .no .no))))
theorem vw12 (R : Ending → World → Prop) (t0 t1 : Value) (w : World) : W Try.prog Try.f12.ntmps (bodyOf Try.f12) an12 ⟨retK Try.prog Try.f12.results.toList fun v w => R (.returned v) w, retK Try.prog Try.f12.results.toList fun v w => R (.returned v) w, []⟩ (args0 0 [t0, t1]) w = vc12 R t0 t1 w := by kernel_rfl
theorem vk12 {R : Ending → World → Prop} {t0 t1 : Value} {w : World} (h : vc12 R t0 t1 w) : Calls Try.prog 12 #[t0, t1] w R :=
  calls_of_W mixed (fn := Try.f12) (c := bodyOf Try.f12) (by kernel_rfl) (by kernel_rfl) an12 (args := [t0, t1]) (by kernel_rfl) (by rw [vw12]; exact h)

/-- (*vault/sched.Sched).Add -/
def vc13 (R : Ending → World → Prop) (t0 t1 t2 t3 : Value) (w : World) : Prop :=
  opK Try.prog (.binOp .lss 3 (.const t1) (.const (.int .i64 0)) 3) 4 w fun t10 w =>
  gK t10 false w (fun K => K t2 w) fun t12 w =>
  gK t10 false w (fun K => opK Try.prog (.binOp .lss 3 (.const t12) (.const (.int .i64 0)) 3) 4 w K) fun t13 w =>
  opK Try.prog (.pick (.const t10) (.const (.bool true)) (.const t13)) 4 w fun t14 w =>
  gK t14 false w (fun K => K t2 w) fun t16 w =>
  gK t14 false w (fun K => opK Try.prog (.binOp .geq 3 (.const t16) (.const (.int .i64 8)) 3) 4 w K) fun t17 w =>
  opK Try.prog (.pick (.const t14) (.const (.bool true)) (.const t17)) 4 w fun t18 w =>
  gK t18 false w (fun K => K t3 w) fun t20 w =>
  gK t18 false w (fun K => opK Try.prog (.binOp .lss 3 (.const t20) (.const (.int .i64 0)) 3) 4 w K) fun t21 w =>
  opK Try.prog (.pick (.const t18) (.const (.bool true)) (.const t21)) 4 w fun t22 w =>
  gK t22 false w (fun K => K t3 w) fun t24 w =>
  gK t22 false w (fun K => opK Try.prog (.binOp .geq 3 (.const t24) (.const (.int .i64 8)) 3) 4 w K) fun t25 w =>
  opK Try.prog (.pick (.const t22) (.const (.bool true)) (.const t25)) 4 w fun t26 w =>
  boolK t26
    (R (.returned (.int .i64 1)) w)
    (opK Try.prog (.nilCheck (.const t0)) 0 w fun t28 w =>
    opK Try.prog (.fieldAddr 99 (.const t28) 3) 0 w fun t29 w =>
    ld1 t29 w fun t30 w =>
    opK Try.prog (.lookup 92 (.const t30) (.const t1) false) 103 w fun t32 w =>
    opK Try.prog (.binOp .neq 103 (.const t32) (.const (.pointer none)) 103) 4 w fun t33 w =>
    boolK t33
      (R (.returned (.int .i64 7)) w)
      (opK Try.prog (.nilCheck (.const t0)) 0 w fun t35 w =>
      opK Try.prog (.fieldAddr 99 (.const t35) 3) 0 w fun t36 w =>
      ld1 t36 w fun t37 w =>
      opK Try.prog (.build 105 #[(0, (.const t2)), (1, (.const t3))]) 105 w fun t41 w =>
      opK Try.prog (.box 105 (.const t41)) 103 w fun t42 w =>
      opK Try.prog (.mapUpdate 92 (.const t37) (.const t1) (.const t42)) 0 w fun _ w =>
      R (.returned (.int .i64 0)) w))
def an13 : Ann := (.seq none .no (.seq none (.seq none .no (.two (.seq none .no .no) .no)) (.seq none (.seq none .no (.two (.seq none .no .no) .no)) (.seq none .no (.seq none .no .no)))))
theorem vw13 (R : Ending → World → Prop) (t0 t1 t2 t3 : Value) (w : World) : W Try.prog Try.f13.ntmps (bodyOf Try.f13) an13 ⟨retK Try.prog Try.f13.results.toList fun v w => R (.returned v) w, retK Try.prog Try.f13.results.toList fun v w => R (.returned v) w, []⟩ (args0 0 [t0, t1, t2, t3]) w = vc13 R t0 t1 t2 t3 w := by kernel_rfl
theorem vk13 {R : Ending → World → Prop} {t0 t1 t2 t3 : Value} {w : World} (h : vc13 R t0 t1 t2 t3 w) : Calls Try.prog 13 #[t0, t1, t2, t3] w R :=
  calls_of_W mixed (fn := Try.f13) (c := bodyOf Try.f13) (by kernel_rfl) (by kernel_rfl) an13 (args := [t0, t1, t2, t3]) (by kernel_rfl) (by rw [vw13]; exact h)

/-- (*vault/sched.Sched).Ready -/
def vc14 (R : Ending → World → Prop) (t0 t1 : Value) (w : World) : Prop :=
  opK Try.prog (.nilCheck (.const t0)) 0 w fun t7 w =>
  opK Try.prog (.fieldAddr 99 (.const t7) 3) 0 w fun t8 w =>
  ld1 t8 w fun t9 w =>
  opK Try.prog (.lookup 92 (.const t9) (.const t1) false) 103 w fun t11 w =>
  opK Try.prog (.binOp .eql 103 (.const t11) (.const (.pointer none)) 103) 4 w fun t14 w =>
  boolK t14
    (R (.returned (.int .i64 6)) w)
    (opK Try.prog (.nilCheck (.const t11)) 0 w fun t17 w =>
    opK Try.prog (.fieldAddr 105 (.const t17) 3) 0 w fun t18 w =>
    ld1 t18 w fun t19 w =>
    boolK t19
      (R (.returned (.int .i64 16)) w)
      (callK Try.prog 33 #[t0, t1, t11] w fun t23 w =>
      R (.returned (.int .i64 0)) w))
def an14 : Ann := (.seq none .no (.seq none .no (.seq none (.one (.seq none .no (.two (.seq none .no .no) (.seq none .no (.two (.seq none .no .no) .no))))) (.seq none .no (.seq none .no .no)))))
theorem vw14 (R : Ending → World → Prop) (t0 t1 : Value) (w : World) : W Try.prog Try.f14.ntmps (bodyOf Try.f14) an14 ⟨retK Try.prog Try.f14.results.toList fun v w => R (.returned v) w, retK Try.prog Try.f14.results.toList fun v w => R (.returned v) w, []⟩ (args0 0 [t0, t1]) w = vc14 R t0 t1 w := by kernel_rfl
theorem vk14 {R : Ending → World → Prop} {t0 t1 : Value} {w : World} (h : vc14 R t0 t1 w) : Calls Try.prog 14 #[t0, t1] w R :=
  calls_of_W mixed (fn := Try.f14) (c := bodyOf Try.f14) (by kernel_rfl) (by kernel_rfl) an14 (args := [t0, t1]) (by kernel_rfl) (by rw [vw14]; exact h)

/-- vault/vaultlaw.turned -/
def vc15 (R : Ending → World → Prop) (t0 t1 t2 t3 : Value) (w : World) : Prop :=
  opK Try.prog (.box 50 (.const t3)) 0 w fun t7 w =>
  opK Try.prog (.fieldAddr 50 (.const t7) 1) 0 w fun t42 w =>
  ld1 t42 w fun t43 w =>
  callK Try.prog 24 #[t43, (.int .i64 7)] w fun t44 w =>
  opK Try.prog (.fieldAddr 50 (.const t7) 0) 0 w fun t45 w =>
  ld1 t45 w fun t46 w =>
  opK Try.prog (.binOp .eql 3 (.const t46) (.const (.int .i64 1)) 3) 4 w fun t48 w =>
  boolK t48
    (stK Try.prog (.fieldAddr 50 (.const t7) 2) 0 w.drew fun t51 =>
    ld1 t51 w.drew fun t52 _ =>
    stcK Try.prog 24 #[t52, (.int .i64 9)] w.drew fun t53 =>
    stK Try.prog (.fieldAddr 50 (.const t7) 3) 0 w.drew fun t54 =>
    ld1 t54 w.drew fun t55 _ =>
    stcK Try.prog 24 #[t55, (.int .i64 9)] w.drew fun t56 =>
    callK Try.prog 13 #[t0, t44, t53, t56] w.drew fun t57 w =>
    stK Try.prog (.fieldAddr 50 (.const t7) 2) 0 w.drew fun t60 =>
    ld1 t60 w.drew fun t61 _ =>
    stcK Try.prog 24 #[t61, (.int .i64 9)] w.drew fun t62 =>
    stK Try.prog (.fieldAddr 50 (.const t7) 3) 0 w.drew fun t63 =>
    ld1 t63 w.drew fun t64 _ =>
    stcK Try.prog 24 #[t64, (.int .i64 9)] w.drew fun t65 =>
    callK Try.prog 34 #[t1, t44, t62, t65] w.drew fun t66 w =>
    opK Try.prog (.binOp .eql 28 (.const t57) (.const t66) 28) 4 w fun t69 w =>
    R (.returned t69) w)
    (opK Try.prog (.binOp .eql 3 (.const t46) (.const (.int .i64 2)) 3) 4 w fun t71 w =>
    boolK t71
      (callK Try.prog 35 #[t0, t44] w fun t74 w =>
      callK Try.prog 36 #[t1, t44] w fun t77 w =>
      opK Try.prog (.binOp .eql 28 (.const t74) (.const t77) 28) 4 w fun t80 w =>
      R (.returned t80) w)
      (opK Try.prog (.binOp .eql 3 (.const t46) (.const (.int .i64 3)) 3) 4 w fun t82 w =>
      boolK t82
        (callK Try.prog 14 #[t0, t44] w fun t85 w =>
        callK Try.prog 37 #[t1, t44] w fun t88 w =>
        opK Try.prog (.binOp .eql 28 (.const t85) (.const t88) 28) 4 w fun t91 w =>
        R (.returned t91) w)
        (opK Try.prog (.binOp .eql 3 (.const t46) (.const (.int .i64 4)) 3) 4 w fun t93 w =>
        boolK t93
          (callK Try.prog 38 #[t0, t44] w fun t96 w =>
          callK Try.prog 39 #[t1, t44] w fun t99 w =>
          opK Try.prog (.binOp .eql 28 (.const t96) (.const t99) 28) 4 w fun t102 w =>
          R (.returned t102) w)
          (opK Try.prog (.binOp .eql 3 (.const t46) (.const (.int .i64 5)) 3) 4 w fun t104 w =>
          boolK t104
            (callK Try.prog 40 #[t0, t44] w fun t107 w =>
            callK Try.prog 41 #[t1, t44] w fun t110 w =>
            opK Try.prog (.binOp .eql 28 (.const t107) (.const t110) 28) 4 w fun t113 w =>
            R (.returned t113) w)
            (opK Try.prog (.binOp .eql 3 (.const t46) (.const (.int .i64 6)) 3) 4 w fun t115 w =>
            boolK t115
              (opK Try.prog (.fieldAddr 50 (.const t7) 2) 0 w fun t118 w =>
              ld1 t118 w fun t119 w =>
              callK Try.prog 24 #[t119, (.int .i64 9)] w fun t120 w =>
              callK Try.prog 42 #[t0, t44, t120] w fun t121 w =>
              opK Try.prog (.fieldAddr 50 (.const t7) 2) 0 w fun t124 w =>
              ld1 t124 w fun t125 w =>
              callK Try.prog 24 #[t125, (.int .i64 9)] w fun t126 w =>
              callK Try.prog 43 #[t1, t44, t126] w fun t127 w =>
              opK Try.prog (.binOp .eql 28 (.const t121) (.const t127) 28) 4 w fun t130 w =>
              R (.returned t130) w)
              (opK Try.prog (.binOp .eql 3 (.const t46) (.const (.int .i64 7)) 3) 4 w fun t132 w =>
              boolK t132
                ((loopK 1 (fun (N1 : Value → World → Prop) (t22 : Value) (w : World) =>
                  opK Try.prog (.fieldAddr 50 (.const t7) 3) 0 w fun t134 w =>
                  ld1 t134 w fun t135 w =>
                  callK Try.prog 44 #[t135, (.int .i64 12)] w fun t136 w =>
                  opK Try.prog (.binOp .add 3 (.const (.int .i64 1)) (.const t136) 3) 3 w fun t137 w =>
                  opK Try.prog (.binOp .lss 3 (.const t22) (.const t137) 3) 4 w fun t138 w =>
                  boolK t138
                    (callK Try.prog 17 #[t0] w fun t142 w =>
                    callK Try.prog 45 #[t1] w fun t144 w =>
                    opK Try.prog (.binOp .neq 3 (.const t142) (.const t144) 3) 4 w fun t147 w =>
                    boolK t147
                      (R (.returned (.bool false)) w)
                      (opK Try.prog (.binOp .add 3 (.const t22) (.const (.int .i64 1)) 3) 3 w fun t140 w =>
                      N1 t140 w))
                    (R (.returned (.bool true)) w)) : Value → World → Prop) (.int .i64 0) w)
                (opK Try.prog (.binOp .eql 3 (.const t46) (.const (.int .i64 8)) 3) 4 w fun t149 w =>
                boolK t149
                  (callK Try.prog 46 #[t0] w fun t152 w =>
                  opK Try.prog (.extract (.const t152) 0) 3 w fun t153 w =>
                  opK Try.prog (.extract (.const t152) 1) 3 w fun t154 w =>
                  callK Try.prog 47 #[t1] w fun t157 w =>
                  opK Try.prog (.extract (.const t157) 0) 3 w fun t158 w =>
                  opK Try.prog (.extract (.const t157) 1) 3 w fun t159 w =>
                  opK Try.prog (.binOp .eql 3 (.const t153) (.const t158) 3) 4 w fun t162 w =>
                  gK t162 true w (fun K => K t154 w) fun t164 w =>
                  gK t162 true w (fun K => K t159 w) fun t165 w =>
                  gK t162 true w (fun K => opK Try.prog (.binOp .eql 3 (.const t164) (.const t165) 3) 4 w K) fun t166 w =>
                  opK Try.prog (.pick (.const t162) (.const t166) (.const (.bool false))) 4 w fun t167 w =>
                  R (.returned t167) w)
                  (opK Try.prog (.binOp .eql 3 (.const t46) (.const (.int .i64 9)) 3) 4 w fun t169 w =>
                  boolK t169
                    (stK Try.prog (.fieldAddr 50 (.const t7) 1) 0 w.drew fun t172 =>
                    ld1 t172 w.drew fun t173 _ =>
                    stcK Try.prog 24 #[t173, (.int .i64 9)] w.drew fun t174 =>
                    stK Try.prog (.fieldAddr 50 (.const t7) 2) 0 w.drew fun t175 =>
                    ld1 t175 w.drew fun t176 _ =>
                    stcK Try.prog 24 #[t176, (.int .i64 9)] w.drew fun t177 =>
                    callK Try.prog 48 #[t0, t174, t177] w.drew fun t178 w =>
                    stK Try.prog (.extract (.const t178) 0) 69 w fun t179 =>
                    stK Try.prog (.extract (.const t178) 1) 28 w fun t180 =>
                    stK Try.prog (.fieldAddr 50 (.const t7) 1) 0 w.drew fun t183 =>
                    ld1 t183 w.drew fun t184 _ =>
                    stcK Try.prog 24 #[t184, (.int .i64 9)] w.drew fun t185 =>
                    stK Try.prog (.fieldAddr 50 (.const t7) 2) 0 w.drew fun t186 =>
                    ld1 t186 w.drew fun t187 _ =>
                    stcK Try.prog 24 #[t187, (.int .i64 9)] w.drew fun t188 =>
                    callK Try.prog 49 #[t1, t185, t188] w.drew fun t189 w =>
                    stK Try.prog (.extract (.const t189) 0) 69 w fun t190 =>
                    stK Try.prog (.extract (.const t189) 1) 28 w fun t191 =>
                    callK Try.prog 50 #[t179, t190] w fun t194 w =>
                    callK Try.prog 51 #[t2, t179] w fun t197 w =>
                    gK t194 true w (fun K => K t180 w) fun t200 w =>
                    gK t194 true w (fun K => K t191 w) fun t201 w =>
                    gK t194 true w (fun K => opK Try.prog (.binOp .eql 28 (.const t200) (.const t201) 28) 4 w K) fun t202 w =>
                    opK Try.prog (.pick (.const t194) (.const t202) (.const (.bool false))) 4 w fun t203 w =>
                    R (.returned t203) w)
                    (opK Try.prog (.binOp .eql 3 (.const t46) (.const (.int .i64 10)) 3) 4 w fun t205 w =>
                    boolK t205
                      (callK Try.prog 52 #[t0, t44] w fun t209 w =>
                      opK Try.prog (.extract (.const t209) 0) 3 w fun t210 w =>
                      opK Try.prog (.extract (.const t209) 1) 3 w fun t211 w =>
                      opK Try.prog (.extract (.const t209) 2) 3 w fun t212 w =>
                      opK Try.prog (.extract (.const t209) 3) 28 w fun t213 w =>
                      callK Try.prog 53 #[t1, t44] w fun t217 w =>
                      opK Try.prog (.extract (.const t217) 0) 3 w fun t218 w =>
                      opK Try.prog (.extract (.const t217) 1) 3 w fun t219 w =>
                      opK Try.prog (.extract (.const t217) 2) 3 w fun t220 w =>
                      opK Try.prog (.extract (.const t217) 3) 28 w fun t221 w =>
                      opK Try.prog (.binOp .eql 3 (.const t210) (.const t218) 3) 4 w fun t224 w =>
                      gK t224 true w (fun K => K t211 w) fun t226 w =>
                      gK t224 true w (fun K => K t219 w) fun t227 w =>
                      gK t224 true w (fun K => opK Try.prog (.binOp .eql 3 (.const t226) (.const t227) 3) 4 w K) fun t228 w =>
                      opK Try.prog (.pick (.const t224) (.const t228) (.const (.bool false))) 4 w fun t229 w =>
                      gK t229 true w (fun K => K t212 w) fun t231 w =>
                      gK t229 true w (fun K => K t220 w) fun t232 w =>
                      gK t229 true w (fun K => opK Try.prog (.binOp .eql 3 (.const t231) (.const t232) 3) 4 w K) fun t233 w =>
                      opK Try.prog (.pick (.const t229) (.const t233) (.const (.bool false))) 4 w fun t234 w =>
                      gK t234 true w (fun K => K t213 w) fun t236 w =>
                      gK t234 true w (fun K => K t221 w) fun t237 w =>
                      gK t234 true w (fun K => opK Try.prog (.binOp .eql 28 (.const t236) (.const t237) 28) 4 w K) fun t238 w =>
                      opK Try.prog (.pick (.const t234) (.const t238) (.const (.bool false))) 4 w fun t239 w =>
                      R (.returned t239) w)
                      (R (.returned (.bool true)) w))))))))))
def an15 : Ann := (.cut [0, 1, 2, 7] .no (.cut [0, 1, 2, 7, 9] .no (.cut [] (.cut [0, 1, 2, 7, 9, 46] .no (.one (.cut [0, 1, 2, 7, 9, 46, 47] .no (.two (.cut [1, 7, 9, 10] (.draw 8) (.cut [10, 11] (.draw 8) (.cut [8] .no .no))) (.cut [0, 1, 2, 7, 9, 46, 70] .no (.two (.cut [1, 9, 12] .no (.cut [12, 13] .no (.cut [8] .no .no))) (.cut [0, 1, 2, 7, 9, 46, 81] .no (.two (.cut [1, 9, 14] .no (.cut [14, 15] .no (.cut [8] .no .no))) (.cut [0, 1, 2, 7, 9, 46, 92] .no (.two (.cut [1, 9, 16] .no (.cut [16, 17] .no (.cut [8] .no .no))) (.cut [0, 1, 2, 7, 9, 46, 103] .no (.two (.cut [1, 9, 18] .no (.cut [18, 19] .no (.cut [8] .no .no))) (.cut [0, 1, 2, 7, 9, 46, 114] .no (.two (.cut [1, 7, 9, 20] .no (.cut [20, 21] .no (.cut [8] .no .no))) (.cut [0, 1, 2, 7, 9, 46, 131] .no (.two (.cut [0, 1, 7, 22] .no (.one (.loop [22] (.cut [0, 1, 7, 22] (.cut [0, 1, 7, 22, 138] .no (.two .no .no)) (.cut [0, 1, 7, 22] (.one (.cut [0, 1, 7, 22, 23] .no (.cut [0, 1, 7, 22, 23, 24] .no (.cut [0, 1, 7, 22, 147] .no (.two (.cut [8] .no .no) .no))))) .no))))) (.cut [0, 1, 2, 7, 9, 46, 148] .no (.two (.cut [1, 25, 26] .no (.cut [25, 26, 27, 28] .no (.cut [8] .no .no))) (.cut [0, 1, 2, 7, 9, 46, 168] .no (.two (.cut [1, 2, 7, 29, 30] (.tree none (.seg [0, 1, 2, 3, 4, 5, 6] (.eff 7 [1, 2, 3, 4, 5, 6] (.seg [8, 9, 10, 11, 12] .fin)))) (.cut [2, 29, 30, 31, 32] (.tree none (.seg [0, 1, 2, 3, 4, 5, 6] (.eff 7 [1, 2, 3, 4, 5, 6] (.seg [8, 9, 10, 11, 12] .fin)))) (.cut [2, 29, 30, 32, 33] .no (.cut [30, 32, 33] .no (.cut [8] .no .no))))) (.cut [0, 1, 9, 204] .no (.two (.cut [1, 9, 34, 35, 36, 37] .no (.cut [34, 35, 36, 37, 38, 39, 40, 41] .no (.cut [8] .no .no))) .no)))))))))))))))))))))) (.cut [8] .no .no))))
theorem vw15 (R : Ending → World → Prop) (t0 t1 t2 t3 : Value) (w : World) : W Try.prog Try.f15.ntmps (bodyOf Try.f15) an15 ⟨retK Try.prog Try.f15.results.toList fun v w => R (.returned v) w, retK Try.prog Try.f15.results.toList fun v w => R (.returned v) w, []⟩ (args0 0 [t0, t1, t2, t3]) w = vc15 R t0 t1 t2 t3 w := by kernel_rfl
theorem vk15 {R : Ending → World → Prop} {t0 t1 t2 t3 : Value} {w : World} (h : vc15 R t0 t1 t2 t3 w) : Calls Try.prog 15 #[t0, t1, t2, t3] w R :=
  calls_of_W mixed (fn := Try.f15) (c := bodyOf Try.f15) (by kernel_rfl) (by kernel_rfl) an15 (args := [t0, t1, t2, t3]) (by kernel_rfl) (by rw [vw15]; exact h)

/-- (*vault/vaultlaw.Books).reads -/
def vc16 (R : Ending → World → Prop) (t0 : Value) (w : World) : Prop :=
  (loopK 1 (fun (N1 : Value → World → Prop) (t3 : Value) (w : World) =>
    opK Try.prog (.nilCheck (.const t0)) 0 w fun t11 w =>
    opK Try.prog (.fieldAddr 47 (.const t11) 0) 0 w fun t12 w =>
    ld1 t12 w fun t13 w =>
    opK Try.prog (.call ⟨(.builtin .len), #[(.const t13)], #[40]⟩) 3 w fun t14 w =>
    opK Try.prog (.binOp .lss 3 (.const t3) (.const t14) 3) 4 w fun t15 w =>
    boolK t15
      ((loopK 1 (fun (N2 : Value → World → Prop) (t4 : Value) (w : World) =>
        opK Try.prog (.nilCheck (.const t0)) 0 w fun t20 w =>
        opK Try.prog (.fieldAddr 47 (.const t20) 0) 0 w fun t21 w =>
        ld1 t21 w fun t22 w =>
        opK Try.prog (.indexAddr 40 (.const t22) (.const t3)) 0 w fun t24 w =>
        ld1 t24 w fun t25 w =>
        opK Try.prog (.call ⟨(.builtin .len), #[(.const t25)], #[69]⟩) 3 w fun t26 w =>
        opK Try.prog (.binOp .lss 3 (.const t4) (.const t26) 3) 4 w fun t27 w =>
        boolK t27
          (opK Try.prog (.nilCheck (.const t0)) 0 w fun t31 w =>
          opK Try.prog (.fieldAddr 47 (.const t31) 0) 0 w fun t32 w =>
          ld1 t32 w fun t33 w =>
          opK Try.prog (.indexAddr 40 (.const t33) (.const t3)) 0 w fun t35 w =>
          ld1 t35 w fun t36 w =>
          opK Try.prog (.indexAddr 69 (.const t36) (.const t4)) 0 w fun t38 w =>
          ld1 t38 w fun t39 w =>
          opK Try.prog (.binOp .quo 3 (.const t3) (.const (.int .i64 2)) 3) 3 w fun t41 w =>
          opK Try.prog (.binOp .sub 3 (.const (.int .i64 (-77))) (.const t41) 3) 3 w fun t42 w =>
          opK Try.prog (.binOp .neq 3 (.const t39) (.const t42) 3) 4 w fun t43 w =>
          boolK t43
            (R (.returned (.bool false)) w)
            (opK Try.prog (.binOp .add 3 (.const t4) (.const (.int .i64 1)) 3) 3 w fun t29 w =>
            N2 t29 w))
          (opK Try.prog (.binOp .add 3 (.const t3) (.const (.int .i64 1)) 3) 3 w fun t17 w =>
          N1 t17 w)) : Value → World → Prop) (.int .i64 0) w)
      ((loopK 1 (fun (N3 : Value → World → Prop) (t5 : Value) (w : World) =>
        opK Try.prog (.nilCheck (.const t0)) 0 w fun t46 w =>
        opK Try.prog (.fieldAddr 47 (.const t46) 1) 0 w fun t47 w =>
        ld1 t47 w fun t48 w =>
        opK Try.prog (.call ⟨(.builtin .len), #[(.const t48)], #[41]⟩) 3 w fun t49 w =>
        opK Try.prog (.binOp .lss 3 (.const t5) (.const t49) 3) 4 w fun t50 w =>
        boolK t50
          ((loopK 1 (fun (N4 : Value → World → Prop) (t6 : Value) (w : World) =>
            opK Try.prog (.nilCheck (.const t0)) 0 w fun t55 w =>
            opK Try.prog (.fieldAddr 47 (.const t55) 1) 0 w fun t56 w =>
            ld1 t56 w fun t57 w =>
            opK Try.prog (.indexAddr 41 (.const t57) (.const t5)) 0 w fun t59 w =>
            ld1 t59 w fun t60 w =>
            opK Try.prog (.call ⟨(.builtin .len), #[(.const t60)], #[115]⟩) 3 w fun t61 w =>
            opK Try.prog (.binOp .lss 3 (.const t6) (.const t61) 3) 4 w fun t62 w =>
            boolK t62
              (opK Try.prog (.nilCheck (.const t0)) 0 w fun t66 w =>
              opK Try.prog (.fieldAddr 47 (.const t66) 1) 0 w fun t67 w =>
              ld1 t67 w fun t68 w =>
              opK Try.prog (.indexAddr 41 (.const t68) (.const t5)) 0 w fun t70 w =>
              ld1 t70 w fun t71 w =>
              opK Try.prog (.indexAddr 115 (.const t71) (.const t6)) 0 w fun t73 w =>
              opK Try.prog (.fieldAddr 117 (.const t73) 0) 0 w fun t74 w =>
              ld1 t74 w fun t75 w =>
              opK Try.prog (.binOp .quo 3 (.const t5) (.const (.int .i64 2)) 3) 3 w fun t77 w =>
              opK Try.prog (.binOp .sub 3 (.const (.int .i64 (-77))) (.const t77) 3) 3 w fun t78 w =>
              opK Try.prog (.binOp .neq 3 (.const t75) (.const t78) 3) 4 w fun t79 w =>
              boolK t79
                (R (.returned (.bool false)) w)
                (opK Try.prog (.binOp .add 3 (.const t6) (.const (.int .i64 1)) 3) 3 w fun t64 w =>
                N4 t64 w))
              (opK Try.prog (.binOp .add 3 (.const t5) (.const (.int .i64 1)) 3) 3 w fun t52 w =>
              N3 t52 w)) : Value → World → Prop) (.int .i64 0) w)
          ((loopK 1 (fun (N5 : Value → World → Prop) (t7 : Value) (w : World) =>
            opK Try.prog (.nilCheck (.const t0)) 0 w fun t82 w =>
            opK Try.prog (.fieldAddr 47 (.const t82) 2) 0 w fun t83 w =>
            ld1 t83 w fun t84 w =>
            opK Try.prog (.call ⟨(.builtin .len), #[(.const t84)], #[42]⟩) 3 w fun t85 w =>
            opK Try.prog (.binOp .lss 3 (.const t7) (.const t85) 3) 4 w fun t86 w =>
            boolK t86
              ((loopK 1 (fun (N6 : Value → World → Prop) (t8 : Value) (w : World) =>
                opK Try.prog (.nilCheck (.const t0)) 0 w fun t91 w =>
                opK Try.prog (.fieldAddr 47 (.const t91) 2) 0 w fun t92 w =>
                ld1 t92 w fun t93 w =>
                opK Try.prog (.indexAddr 42 (.const t93) (.const t7)) 0 w fun t95 w =>
                ld1 t95 w fun t96 w =>
                opK Try.prog (.call ⟨(.builtin .len), #[(.const t96)], #[118]⟩) 3 w fun t97 w =>
                opK Try.prog (.binOp .lss 3 (.const t8) (.const t97) 3) 4 w fun t98 w =>
                boolK t98
                  (opK Try.prog (.nilCheck (.const t0)) 0 w fun t102 w =>
                  opK Try.prog (.fieldAddr 47 (.const t102) 2) 0 w fun t103 w =>
                  ld1 t103 w fun t104 w =>
                  opK Try.prog (.indexAddr 42 (.const t104) (.const t7)) 0 w fun t106 w =>
                  ld1 t106 w fun t107 w =>
                  opK Try.prog (.indexAddr 118 (.const t107) (.const t8)) 0 w fun t109 w =>
                  opK Try.prog (.fieldAddr 120 (.const t109) 1) 0 w fun t110 w =>
                  ld1 t110 w fun t111 w =>
                  opK Try.prog (.binOp .quo 3 (.const t7) (.const (.int .i64 2)) 3) 3 w fun t113 w =>
                  opK Try.prog (.binOp .sub 3 (.const (.int .i64 (-77))) (.const t113) 3) 3 w fun t114 w =>
                  opK Try.prog (.binOp .neq 3 (.const t111) (.const t114) 3) 4 w fun t115 w =>
                  boolK t115
                    (R (.returned (.bool false)) w)
                    (opK Try.prog (.binOp .add 3 (.const t8) (.const (.int .i64 1)) 3) 3 w fun t100 w =>
                    N6 t100 w))
                  (opK Try.prog (.binOp .add 3 (.const t7) (.const (.int .i64 1)) 3) 3 w fun t88 w =>
                  N5 t88 w)) : Value → World → Prop) (.int .i64 0) w)
              (callK Try.prog 54 #[t0] w fun t117 w =>
              R (.returned t117) w)) : Value → World → Prop) (.int .i64 0) w)) : Value → World → Prop) (.int .i64 0) w)) : Value → World → Prop) (.int .i64 0) w
def an16 : Ann := (.cut [0] .no (.cut [0] (.cut [0, 3] .no (.one (.loop [3] (.cut [0, 3] (.cut [0, 3, 15] .no (.two .no .no)) (.cut [0, 3] (.one (.cut [0, 3, 4] .no (.one (.loop [4] (.cut [0, 3, 4] (.cut [0, 3, 4, 27] .no (.two .no .no)) (.cut [0, 3, 4] (.one (.cut [0, 3, 4, 43] .no (.two (.cut [2] .no .no) .no))) .no)))))) .no))))) (.cut [0] (.cut [0, 5] .no (.one (.loop [5] (.cut [0, 5] (.cut [0, 5, 50] .no (.two .no .no)) (.cut [0, 5] (.one (.cut [0, 5, 6] .no (.one (.loop [6] (.cut [0, 5, 6] (.cut [0, 5, 6, 62] .no (.two .no .no)) (.cut [0, 5, 6] (.one (.cut [0, 5, 6, 79] .no (.two (.cut [2] .no .no) .no))) .no)))))) .no))))) (.cut [0] (.cut [0, 7] .no (.one (.loop [7] (.cut [0, 7] (.cut [0, 7, 86] .no (.two .no .no)) (.cut [0, 7] (.one (.cut [0, 7, 8] .no (.one (.loop [8] (.cut [0, 7, 8] (.cut [0, 7, 8, 98] .no (.two .no .no)) (.cut [0, 7, 8] (.one (.cut [0, 7, 8, 115] .no (.two (.cut [2] .no .no) .no))) .no)))))) .no))))) (.cut [2] .no .no)))))
theorem vw16 (R : Ending → World → Prop) (t0 : Value) (w : World) : W Try.prog Try.f16.ntmps (bodyOf Try.f16) an16 ⟨retK Try.prog Try.f16.results.toList fun v w => R (.returned v) w, retK Try.prog Try.f16.results.toList fun v w => R (.returned v) w, []⟩ (args0 0 [t0]) w = vc16 R t0 w := by kernel_rfl
theorem vk16 {R : Ending → World → Prop} {t0 : Value} {w : World} (h : vc16 R t0 w) : Calls Try.prog 16 #[t0] w R :=
  calls_of_W mixed (fn := Try.f16) (c := bodyOf Try.f16) (by kernel_rfl) (by kernel_rfl) an16 (args := [t0]) (by kernel_rfl) (by rw [vw16]; exact h)

/-- (*vault/sched.Sched).Next -/
def vc17 (R : Ending → World → Prop) (t0 : Value) (w : World) : Prop :=
  joinK 0 (fun (M1 : World → Prop) =>
    opK Try.prog (.nilCheck (.const t0)) 0 w fun t9 w =>
    opK Try.prog (.fieldAddr 99 (.const t9) 2) 0 w fun t10 w =>
    ld1 t10 w fun t11 w =>
    opK Try.prog (.binOp .eql 3 (.const t11) (.const (.int .i64 0)) 3) 4 w fun t12 w =>
    boolK t12
      (stK Try.prog (.nilCheck (.const t0)) 0 w.drew fun t15 =>
      stK Try.prog (.fieldAddr 99 (.const t15) 1) 0 w.drew fun t16 =>
      ld1 t16 w.drew fun t17 _ =>
      stK Try.prog (.binOp .add 3 (.const t17) (.const (.int .i64 1)) 3) 3 w.drew fun t18 =>
      stK Try.prog (.nilCheck (.const t0)) 0 w.drew fun t20 =>
      stK Try.prog (.fieldAddr 99 (.const t20) 0) 0 w.drew fun t21 =>
      ld1 t21 w.drew fun t22 _ =>
      stK Try.prog (.call ⟨(.builtin .len), #[(.const t22)], #[24]⟩) 3 w.drew fun t23 =>
      stK Try.prog (.binOp .rem 3 (.const t18) (.const t23) 3) 3 w.drew fun t24 =>
      stK Try.prog (.nilCheck (.const t0)) 0 w.drew fun t25 =>
      stK Try.prog (.fieldAddr 99 (.const t25) 1) 0 w.drew fun t26 =>
      st1 t26 t24 w.drew fun _ w =>
      stK Try.prog (.nilCheck (.const t0)) 0 w.drew fun t29 =>
      stK Try.prog (.fieldAddr 99 (.const t29) 0) 0 w.drew fun t30 =>
      ld1 t30 w.drew fun t31 _ =>
      stK Try.prog (.nilCheck (.const t0)) 0 w.drew fun t33 =>
      stK Try.prog (.fieldAddr 99 (.const t33) 1) 0 w.drew fun t34 =>
      ld1 t34 w.drew fun t35 _ =>
      stK Try.prog (.indexAddr 24 (.const t31) (.const t35)) 0 w.drew fun t36 =>
      stK Try.prog (.fieldAddr 36 (.const t36) 1) 0 w.drew fun t37 =>
      ld1 t37 w.drew fun t38 _ =>
      stK Try.prog (.nilCheck (.const t0)) 0 w.drew fun t39 =>
      stK Try.prog (.fieldAddr 99 (.const t39) 2) 0 w.drew fun t40 =>
      st1 t40 t38 w.drew fun _ w =>
      M1 w)
      (M1 w))
    (fun (w : World) =>
    opK Try.prog (.nilCheck (.const t0)) 0 w fun t42 w =>
    opK Try.prog (.fieldAddr 99 (.const t42) 2) 0 w fun t43 w =>
    ld1 t43 w fun t44 w =>
    opK Try.prog (.binOp .sub 3 (.const t44) (.const (.int .i64 1)) 3) 3 w fun t45 w =>
    opK Try.prog (.nilCheck (.const t0)) 0 w fun t46 w =>
    opK Try.prog (.fieldAddr 99 (.const t46) 2) 0 w fun t47 w =>
    st1 t47 t45 w fun _ w =>
    stK Try.prog (.nilCheck (.const t0)) 0 w.drew fun t50 =>
    stK Try.prog (.fieldAddr 99 (.const t50) 0) 0 w.drew fun t51 =>
    ld1 t51 w.drew fun t52 _ =>
    stK Try.prog (.nilCheck (.const t0)) 0 w.drew fun t54 =>
    stK Try.prog (.fieldAddr 99 (.const t54) 1) 0 w.drew fun t55 =>
    ld1 t55 w.drew fun t56 _ =>
    stK Try.prog (.indexAddr 24 (.const t52) (.const t56)) 0 w.drew fun t57 =>
    stK Try.prog (.fieldAddr 36 (.const t57) 0) 0 w.drew fun t58 =>
    ld1 t58 w.drew fun t59 _ =>
    stK Try.prog (.nilCheck (.const t0)) 0 w.drew fun t60 =>
    stK Try.prog (.fieldAddr 99 (.const t60) 4) 0 w.drew fun t61 =>
    stK Try.prog (.indexAddr 97 (.const t61) (.const t59)) 0 w.drew fun t62 =>
    (loopK 1 (fun (N2 : Value → World → Prop) (t4 : Value) (w : World) =>
      opK Try.prog (.binOp .geq 3 (.const t4) (.const (.int .i64 0)) 3) 4 w fun t64 w =>
      boolK t64
        (opK Try.prog (.nilCheck (.const t62)) 0 w fun t69 w =>
        opK Try.prog (.indexAddr 96 (.const t69) (.const t4)) 0 w fun t70 w =>
        callK Try.prog 55 #[t70] w fun t72 w =>
        opK Try.prog (.binOp .eql 3 (.const t72) (.const (.int .i64 0)) 3) 4 w fun t73 w =>
        boolK t73
          (opK Try.prog (.binOp .sub 3 (.const t4) (.const (.int .i64 1)) 3) 3 w fun t66 w =>
          N2 t66 w)
          (callK Try.prog 56 #[t70] w fun t75 w =>
          joinK 1 (fun (M3 : Value → World → Prop) =>
            opK Try.prog (.nilCheck (.const t0)) 0 w fun t77 w =>
            opK Try.prog (.fieldAddr 99 (.const t77) 3) 0 w fun t78 w =>
            ld1 t78 w fun t79 w =>
            opK Try.prog (.lookup 92 (.const t79) (.const t75) false) 103 w fun t81 w =>
            opK Try.prog (.nilCheck (.const t81)) 0 w fun t83 w =>
            opK Try.prog (.fieldAddr 105 (.const t83) 2) 0 w fun t84 w =>
            ld1 t84 w fun t85 w =>
            opK Try.prog (.binOp .eql 3 (.const t85) (.const (.int .i64 0)) 3) 4 w fun t86 w =>
            boolK t86
              (callK Try.prog 33 #[t0, t75, t81] w fun t90 w =>
              callK Try.prog 56 #[t70] w fun t92 w =>
              M3 t92 w)
              (M3 t75 w))
            (fun (t6 : Value) (w : World) =>
            opK Try.prog (.nilCheck (.const t0)) 0 w fun t94 w =>
            opK Try.prog (.fieldAddr 99 (.const t94) 3) 0 w fun t95 w =>
            ld1 t95 w fun t96 w =>
            opK Try.prog (.lookup 92 (.const t96) (.const t6) false) 103 w fun t98 w =>
            opK Try.prog (.nilCheck (.const t98)) 0 w fun t99 w =>
            opK Try.prog (.fieldAddr 105 (.const t99) 2) 0 w fun t100 w =>
            ld1 t100 w fun t101 w =>
            opK Try.prog (.binOp .sub 3 (.const t101) (.const (.int .i64 1)) 3) 3 w fun t102 w =>
            opK Try.prog (.nilCheck (.const t98)) 0 w fun t103 w =>
            opK Try.prog (.fieldAddr 105 (.const t103) 2) 0 w fun t104 w =>
            st1 t104 t102 w fun _ w =>
            R (.returned t6) w)))
        (R (.returned (.int .i64 (-1))) w)) : Value → World → Prop) (.int .i64 7) w.drew)
def an17 : Ann := (.cut [0] .no (.seq (some []) (.cut [0, 12] .no (.two (.cut [0] (.draw 14) (.draw 14)) .no)) (.cut [0] .no (.cut [0, 3] (.draw 16) (.cut [] (.cut [0, 3, 4] .no (.one (.loop [4] (.cut [0, 3, 4] (.cut [0, 3, 4, 64] .no (.two .no .no)) (.cut [0, 3, 4] (.one (.cut [0, 3, 4, 5] .no (.cut [0, 5] (.cut [0, 3, 4, 5, 73] .no (.two .no .no)) (.cut [0, 5, 6] .no (.seq (some [6]) (.cut [0, 5, 6, 7] .no (.cut [0, 5, 6, 7, 86] .no (.two (.cut [0, 5] .no .no) .no))) (.cut [6] .no (.cut [2] .no .no))))))) .no))))) (.cut [2] .no .no))))))
theorem vw17 (R : Ending → World → Prop) (t0 : Value) (w : World) : W Try.prog Try.f17.ntmps (bodyOf Try.f17) an17 ⟨retK Try.prog Try.f17.results.toList fun v w => R (.returned v) w, retK Try.prog Try.f17.results.toList fun v w => R (.returned v) w, []⟩ (args0 0 [t0]) w = vc17 R t0 w := by kernel_rfl
theorem vk17 {R : Ending → World → Prop} {t0 : Value} {w : World} (h : vc17 R t0 w) : Calls Try.prog 17 #[t0] w R :=
  calls_of_W mixed (fn := Try.f17) (c := bodyOf Try.f17) (by kernel_rfl) (by kernel_rfl) an17 (args := [t0]) (by kernel_rfl) (by rw [vw17]; exact h)

/-- vault/vaultlaw.near -/
def vc24 (R : Ending → World → Prop) (t0 t1 : Value) (w : World) : Prop :=
  opK Try.prog (.binOp .rem 3 (.const t0) (.const (.int .i64 31)) 3) 3 w fun t6 w =>
  opK Try.prog (.binOp .eql 3 (.const t6) (.const (.int .i64 30)) 3) 4 w fun t7 w =>
  boolK t7
    (R (.returned t0) w)
    (opK Try.prog (.binOp .add 3 (.const t1) (.const (.int .i64 2)) 3) 3 w fun t11 w =>
    callK Try.prog 44 #[t0, t11] w fun t12 w =>
    opK Try.prog (.binOp .sub 3 (.const t12) (.const (.int .i64 1)) 3) 3 w fun t13 w =>
    R (.returned t13) w)
def an24 : Ann := (.seq none .no (.seq none (.seq none .no (.two (.seq none .no .no) .no)) (.seq none .no .no)))
theorem vw24 (R : Ending → World → Prop) (t0 t1 : Value) (w : World) : W Try.prog Try.f24.ntmps (bodyOf Try.f24) an24 ⟨retK Try.prog Try.f24.results.toList fun v w => R (.returned v) w, retK Try.prog Try.f24.results.toList fun v w => R (.returned v) w, []⟩ (args0 0 [t0, t1]) w = vc24 R t0 t1 w := by kernel_rfl
theorem vk24 {R : Ending → World → Prop} {t0 t1 : Value} {w : World} (h : vc24 R t0 t1 w) : Calls Try.prog 24 #[t0, t1] w R :=
  calls_of_W mixed (fn := Try.f24) (c := bodyOf Try.f24) (by kernel_rfl) (by kernel_rfl) an24 (args := [t0, t1]) (by kernel_rfl) (by rw [vw24]; exact h)

/-- slices.Clone[[]vault/api.Turn,vault/api.Turn] -/
def vc32 (R : Ending → World → Prop) (t0 : Value) (w : World) : Prop :=
  opK Try.prog (.binOp .eql 24 (.const t0) (.const (.slice none 0 0)) 24) 4 w fun t4 w =>
  boolK t4
    (R (.returned (.slice none 0 0)) w)
    (opK Try.prog (.buildSlice 24 0 #[]) 24 w fun t5 w =>
    opK Try.prog (.call ⟨(.builtin .append), #[(.const t5), (.const t0)], #[24, 24]⟩) 24 w fun t7 w =>
    R (.returned t7) w)
def an32 : Ann := (.seq none .no (.seq none (.seq none .no (.two (.seq none .no .no) .no)) (.seq none .no .no)))
theorem vw32 (R : Ending → World → Prop) (t0 : Value) (w : World) : W Try.prog Try.f32.ntmps (bodyOf Try.f32) an32 ⟨retK Try.prog Try.f32.results.toList fun v w => R (.returned v) w, retK Try.prog Try.f32.results.toList fun v w => R (.returned v) w, []⟩ (args0 0 [t0]) w = vc32 R t0 w := by kernel_rfl
theorem vk32 {R : Ending → World → Prop} {t0 : Value} {w : World} (h : vc32 R t0 w) : Calls Try.prog 32 #[t0] w R :=
  calls_of_W mixed (fn := Try.f32) (c := bodyOf Try.f32) (by kernel_rfl) (by kernel_rfl) an32 (args := [t0]) (by kernel_rfl) (by rw [vw32]; exact h)

/-- (*vault/sched.Sched).last -/
def vc33 (R : Ending → World → Prop) (t0 t1 t2 : Value) (w : World) : Prop :=
  callK Try.prog 93 #[t0, t1, t2] w fun t9 w =>
  callK Try.prog 94 #[t0, t2] w fun t12 w =>
  callK Try.prog 95 #[t12, t1] w fun t14 w =>
  opK Try.prog (.nilCheck (.const t2)) 0 w fun t17 w =>
  opK Try.prog (.fieldAddr 105 (.const t17) 2) 0 w fun t18 w =>
  st1 t18 (.int .i64 5) w fun _ w =>
  opK Try.prog (.nilCheck (.const t2)) 0 w fun t19 w =>
  opK Try.prog (.fieldAddr 105 (.const t19) 3) 0 w fun t20 w =>
  st1 t20 (.bool true) w fun _ w =>
  R (.returned (.tuple #[])) w
def an33 : Ann := (.seq none .no (.seq none .no .no))
theorem vw33 (R : Ending → World → Prop) (t0 t1 t2 : Value) (w : World) : W Try.prog Try.f33.ntmps (bodyOf Try.f33) an33 ⟨retK Try.prog Try.f33.results.toList fun v w => R (.returned v) w, retK Try.prog Try.f33.results.toList fun v w => R (.returned v) w, []⟩ (args0 0 [t0, t1, t2]) w = vc33 R t0 t1 t2 w := by kernel_rfl
theorem vk33 {R : Ending → World → Prop} {t0 t1 t2 : Value} {w : World} (h : vc33 R t0 t1 t2 w) : Calls Try.prog 33 #[t0, t1, t2] w R :=
  calls_of_W mixed (fn := Try.f33) (c := bodyOf Try.f33) (by kernel_rfl) (by kernel_rfl) an33 (args := [t0, t1, t2]) (by kernel_rfl) (by rw [vw33]; exact h)

/-- (*vault/vaultref.Sched).Add -/
def vc34 (R : Ending → World → Prop) (t0 t1 t2 t3 : Value) (w : World) : Prop :=
  opK Try.prog (.binOp .lss 3 (.const t1) (.const (.int .i64 0)) 3) 4 w fun t11 w =>
  gK t11 false w (fun K => K t2 w) fun t13 w =>
  gK t11 false w (fun K => opK Try.prog (.binOp .lss 3 (.const t13) (.const (.int .i64 0)) 3) 4 w K) fun t14 w =>
  opK Try.prog (.pick (.const t11) (.const (.bool true)) (.const t14)) 4 w fun t15 w =>
  gK t15 false w (fun K => K t2 w) fun t17 w =>
  gK t15 false w (fun K => opK Try.prog (.binOp .gtr 3 (.const t17) (.const (.int .i64 7)) 3) 4 w K) fun t18 w =>
  opK Try.prog (.pick (.const t15) (.const (.bool true)) (.const t18)) 4 w fun t19 w =>
  gK t19 false w (fun K => K t3 w) fun t21 w =>
  gK t19 false w (fun K => opK Try.prog (.binOp .lss 3 (.const t21) (.const (.int .i64 0)) 3) 4 w K) fun t22 w =>
  opK Try.prog (.pick (.const t19) (.const (.bool true)) (.const t22)) 4 w fun t23 w =>
  gK t23 false w (fun K => K t3 w) fun t25 w =>
  gK t23 false w (fun K => opK Try.prog (.binOp .gtr 3 (.const t25) (.const (.int .i64 7)) 3) 4 w K) fun t26 w =>
  opK Try.prog (.pick (.const t23) (.const (.bool true)) (.const t26)) 4 w fun t27 w =>
  boolK t27
    (R (.returned (.int .i64 1)) w)
    (callK Try.prog 96 #[t0, t1] w fun t30 w =>
    opK Try.prog (.binOp .geq 3 (.const t30) (.const (.int .i64 0)) 3) 4 w fun t32 w =>
    boolK t32
      (R (.returned (.int .i64 7)) w)
      (opK Try.prog (.nilCheck (.const t0)) 0 w fun t35 w =>
      opK Try.prog (.fieldAddr 102 (.const t35) 3) 0 w fun t36 w =>
      ld1 t36 w fun t37 w =>
      opK Try.prog (.build 168 #[(0, (.const t1)), (1, (.const t2)), (2, (.const t3))]) 168 w fun t41 w =>
      opK Try.prog (.buildSlice 100 1 #[(0, (.const t41))]) 100 w fun t42 w =>
      opK Try.prog (.call ⟨(.builtin .append), #[(.const t37), (.const t42)], #[100, 100]⟩) 100 w fun t43 w =>
      opK Try.prog (.nilCheck (.const t0)) 0 w fun t44 w =>
      opK Try.prog (.fieldAddr 102 (.const t44) 3) 0 w fun t45 w =>
      st1 t45 t43 w fun _ w =>
      R (.returned (.int .i64 0)) w))
def an34 : Ann := (.seq none .no (.seq none (.seq none .no (.two (.seq none .no .no) .no)) (.seq none .no (.seq none (.seq none .no (.two (.seq none .no .no) .no)) (.seq none .no (.seq none .no .no))))))
theorem vw34 (R : Ending → World → Prop) (t0 t1 t2 t3 : Value) (w : World) : W Try.prog Try.f34.ntmps (bodyOf Try.f34) an34 ⟨retK Try.prog Try.f34.results.toList fun v w => R (.returned v) w, retK Try.prog Try.f34.results.toList fun v w => R (.returned v) w, []⟩ (args0 0 [t0, t1, t2, t3]) w = vc34 R t0 t1 t2 t3 w := by kernel_rfl
theorem vk34 {R : Ending → World → Prop} {t0 t1 t2 t3 : Value} {w : World} (h : vc34 R t0 t1 t2 t3 w) : Calls Try.prog 34 #[t0, t1, t2, t3] w R :=
  calls_of_W mixed (fn := Try.f34) (c := bodyOf Try.f34) (by kernel_rfl) (by kernel_rfl) an34 (args := [t0, t1, t2, t3]) (by kernel_rfl) (by rw [vw34]; exact h)

/-- (*vault/sched.Sched).Remove -/
def vc35 (R : Ending → World → Prop) (t0 t1 : Value) (w : World) : Prop :=
  opK Try.prog (.nilCheck (.const t0)) 0 w fun t7 w =>
  opK Try.prog (.fieldAddr 99 (.const t7) 3) 0 w fun t8 w =>
  ld1 t8 w fun t9 w =>
  opK Try.prog (.lookup 92 (.const t9) (.const t1) false) 103 w fun t11 w =>
  opK Try.prog (.binOp .eql 103 (.const t11) (.const (.pointer none)) 103) 4 w fun t13 w =>
  boolK t13
    (R (.returned (.int .i64 6)) w)
    (callK Try.prog 93 #[t0, t1, t11] w fun t17 w =>
    opK Try.prog (.nilCheck (.const t0)) 0 w fun t19 w =>
    opK Try.prog (.fieldAddr 99 (.const t19) 3) 0 w fun t20 w =>
    ld1 t20 w fun t21 w =>
    opK Try.prog (.call ⟨(.builtin .delete), #[(.const t21), (.const t1)], #[92, 3]⟩) 0 w fun _ w =>
    R (.returned (.int .i64 0)) w)
def an35 : Ann := (.seq none .no (.seq none .no (.seq none (.seq none .no (.two (.seq none .no .no) .no)) (.seq none .no (.seq none .no (.seq none .no .no))))))
theorem vw35 (R : Ending → World → Prop) (t0 t1 : Value) (w : World) : W Try.prog Try.f35.ntmps (bodyOf Try.f35) an35 ⟨retK Try.prog Try.f35.results.toList fun v w => R (.returned v) w, retK Try.prog Try.f35.results.toList fun v w => R (.returned v) w, []⟩ (args0 0 [t0, t1]) w = vc35 R t0 t1 w := by kernel_rfl
theorem vk35 {R : Ending → World → Prop} {t0 t1 : Value} {w : World} (h : vc35 R t0 t1 w) : Calls Try.prog 35 #[t0, t1] w R :=
  calls_of_W mixed (fn := Try.f35) (c := bodyOf Try.f35) (by kernel_rfl) (by kernel_rfl) an35 (args := [t0, t1]) (by kernel_rfl) (by rw [vw35]; exact h)

/-- (*vault/vaultref.Sched).Remove -/
def vc36 (R : Ending → World → Prop) (t0 t1 : Value) (w : World) : Prop :=
  callK Try.prog 96 #[t0, t1] w fun t9 w =>
  opK Try.prog (.binOp .lss 3 (.const t9) (.const (.int .i64 0)) 3) 4 w fun t11 w =>
  boolK t11
    (R (.returned (.int .i64 6)) w)
    (opK Try.prog (.nilCheck (.const t0)) 0 w fun t14 w =>
    opK Try.prog (.fieldAddr 102 (.const t14) 3) 0 w fun t15 w =>
    ld1 t15 w fun t16 w =>
    opK Try.prog (.slice 100 (.const t16) none (some (.const t9)) none) 100 w fun t18 w =>
    opK Try.prog (.call ⟨(.builtin .append), #[(.const (.slice none 0 0)), (.const t18)], #[100, 100]⟩) 100 w fun t19 w =>
    opK Try.prog (.nilCheck (.const t0)) 0 w fun t23 w =>
    opK Try.prog (.fieldAddr 102 (.const t23) 3) 0 w fun t24 w =>
    ld1 t24 w fun t25 w =>
    opK Try.prog (.binOp .add 3 (.const t9) (.const (.int .i64 1)) 3) 3 w fun t27 w =>
    opK Try.prog (.slice 100 (.const t25) (some (.const t27)) none none) 100 w fun t28 w =>
    opK Try.prog (.call ⟨(.builtin .append), #[(.const t19), (.const t28)], #[100, 100]⟩) 100 w fun t29 w =>
    opK Try.prog (.nilCheck (.const t0)) 0 w fun t30 w =>
    opK Try.prog (.fieldAddr 102 (.const t30) 3) 0 w fun t31 w =>
    st1 t31 t29 w fun _ w =>
    R (.returned (.int .i64 0)) w)
def an36 : Ann := (.seq none .no (.seq none .no (.seq none (.seq none .no (.two (.seq none .no .no) .no)) (.seq none .no (.seq none .no (.seq none .no (.seq none .no .no)))))))
theorem vw36 (R : Ending → World → Prop) (t0 t1 : Value) (w : World) : W Try.prog Try.f36.ntmps (bodyOf Try.f36) an36 ⟨retK Try.prog Try.f36.results.toList fun v w => R (.returned v) w, retK Try.prog Try.f36.results.toList fun v w => R (.returned v) w, []⟩ (args0 0 [t0, t1]) w = vc36 R t0 t1 w := by kernel_rfl
theorem vk36 {R : Ending → World → Prop} {t0 t1 : Value} {w : World} (h : vc36 R t0 t1 w) : Calls Try.prog 36 #[t0, t1] w R :=
  calls_of_W mixed (fn := Try.f36) (c := bodyOf Try.f36) (by kernel_rfl) (by kernel_rfl) an36 (args := [t0, t1]) (by kernel_rfl) (by rw [vw36]; exact h)

/-- (*vault/vaultref.Sched).Ready -/
def vc37 (R : Ending → World → Prop) (t0 t1 : Value) (w : World) : Prop :=
  callK Try.prog 96 #[t0, t1] w fun t8 w =>
  opK Try.prog (.binOp .lss 3 (.const t8) (.const (.int .i64 0)) 3) 4 w fun t10 w =>
  boolK t10
    (R (.returned (.int .i64 6)) w)
    (opK Try.prog (.nilCheck (.const t0)) 0 w fun t12 w =>
    opK Try.prog (.fieldAddr 102 (.const t12) 3) 0 w fun t13 w =>
    ld1 t13 w fun t14 w =>
    opK Try.prog (.indexAddr 100 (.const t14) (.const t8)) 0 w fun t16 w =>
    opK Try.prog (.fieldAddr 168 (.const t16) 4) 0 w fun t17 w =>
    ld1 t17 w fun t18 w =>
    opK Try.prog (.binOp .gtr 3 (.const t18) (.const (.int .i64 0)) 3) 4 w fun t19 w =>
    boolK t19
      (R (.returned (.int .i64 16)) w)
      (callK Try.prog 97 #[t0, t8] w fun t22 w =>
      R (.returned (.int .i64 0)) w))
def an37 : Ann := (.seq none .no (.seq none .no (.seq none (.seq none .no (.two (.seq none .no .no) .no)) (.seq none (.seq none .no (.two (.seq none .no .no) .no)) (.seq none .no (.seq none .no .no))))))
theorem vw37 (R : Ending → World → Prop) (t0 t1 : Value) (w : World) : W Try.prog Try.f37.ntmps (bodyOf Try.f37) an37 ⟨retK Try.prog Try.f37.results.toList fun v w => R (.returned v) w, retK Try.prog Try.f37.results.toList fun v w => R (.returned v) w, []⟩ (args0 0 [t0, t1]) w = vc37 R t0 t1 w := by kernel_rfl
theorem vk37 {R : Ending → World → Prop} {t0 t1 : Value} {w : World} (h : vc37 R t0 t1 w) : Calls Try.prog 37 #[t0, t1] w R :=
  calls_of_W mixed (fn := Try.f37) (c := bodyOf Try.f37) (by kernel_rfl) (by kernel_rfl) an37 (args := [t0, t1]) (by kernel_rfl) (by rw [vw37]; exact h)

/-- (*vault/sched.Sched).Block -/
def vc38 (R : Ending → World → Prop) (t0 t1 : Value) (w : World) : Prop :=
  callK Try.prog 98 #[t0, t1] w fun t10 w =>
  opK Try.prog (.extract (.const t10) 0) 103 w fun t11 w =>
  opK Try.prog (.extract (.const t10) 1) 28 w fun t12 w =>
  opK Try.prog (.binOp .neq 28 (.const t12) (.const (.int .i64 0)) 28) 4 w fun t14 w =>
  boolK t14
    (R (.returned t12) w)
    (callK Try.prog 93 #[t0, t1, t11] w fun t19 w =>
    opK Try.prog (.nilCheck (.const t11)) 0 w fun t22 w =>
    opK Try.prog (.fieldAddr 105 (.const t22) 3) 0 w fun t23 w =>
    st1 t23 (.bool false) w fun _ w =>
    opK Try.prog (.nilCheck (.const t11)) 0 w fun t24 w =>
    opK Try.prog (.fieldAddr 105 (.const t24) 2) 0 w fun t25 w =>
    st1 t25 (.int .i64 0) w fun _ w =>
    R (.returned (.int .i64 0)) w)
def an38 : Ann := (.seq none .no (.seq none .no (.seq none (.seq none .no (.two (.seq none .no .no) .no)) (.seq none .no (.seq none .no (.seq none .no .no))))))
theorem vw38 (R : Ending → World → Prop) (t0 t1 : Value) (w : World) : W Try.prog Try.f38.ntmps (bodyOf Try.f38) an38 ⟨retK Try.prog Try.f38.results.toList fun v w => R (.returned v) w, retK Try.prog Try.f38.results.toList fun v w => R (.returned v) w, []⟩ (args0 0 [t0, t1]) w = vc38 R t0 t1 w := by kernel_rfl
theorem vk38 {R : Ending → World → Prop} {t0 t1 : Value} {w : World} (h : vc38 R t0 t1 w) : Calls Try.prog 38 #[t0, t1] w R :=
  calls_of_W mixed (fn := Try.f38) (c := bodyOf Try.f38) (by kernel_rfl) (by kernel_rfl) an38 (args := [t0, t1]) (by kernel_rfl) (by rw [vw38]; exact h)

/-- (*vault/vaultref.Sched).Block -/
def vc39 (R : Ending → World → Prop) (t0 t1 : Value) (w : World) : Prop :=
  callK Try.prog 96 #[t0, t1] w fun t8 w =>
  opK Try.prog (.binOp .lss 3 (.const t8) (.const (.int .i64 0)) 3) 4 w fun t10 w =>
  boolK t10
    (R (.returned (.int .i64 6)) w)
    (opK Try.prog (.nilCheck (.const t0)) 0 w fun t12 w =>
    opK Try.prog (.fieldAddr 102 (.const t12) 3) 0 w fun t13 w =>
    ld1 t13 w fun t14 w =>
    opK Try.prog (.indexAddr 100 (.const t14) (.const t8)) 0 w fun t16 w =>
    opK Try.prog (.fieldAddr 168 (.const t16) 4) 0 w fun t17 w =>
    ld1 t17 w fun t18 w =>
    opK Try.prog (.binOp .eql 3 (.const t18) (.const (.int .i64 0)) 3) 4 w fun t19 w =>
    boolK t19
      (R (.returned (.int .i64 16)) w)
      (opK Try.prog (.nilCheck (.const t0)) 0 w fun t21 w =>
      opK Try.prog (.fieldAddr 102 (.const t21) 3) 0 w fun t22 w =>
      ld1 t22 w fun t23 w =>
      opK Try.prog (.indexAddr 100 (.const t23) (.const t8)) 0 w fun t25 w =>
      opK Try.prog (.fieldAddr 168 (.const t25) 4) 0 w fun t26 w =>
      st1 t26 (.int .i64 0) w fun _ w =>
      opK Try.prog (.nilCheck (.const t0)) 0 w fun t28 w =>
      opK Try.prog (.fieldAddr 102 (.const t28) 3) 0 w fun t29 w =>
      ld1 t29 w fun t30 w =>
      opK Try.prog (.indexAddr 100 (.const t30) (.const t8)) 0 w fun t32 w =>
      opK Try.prog (.fieldAddr 168 (.const t32) 3) 0 w fun t33 w =>
      st1 t33 (.int .i64 0) w fun _ w =>
      R (.returned (.int .i64 0)) w))
def an39 : Ann := (.seq none .no (.seq none .no (.seq none (.seq none .no (.two (.seq none .no .no) .no)) (.seq none (.seq none .no (.two (.seq none .no .no) .no)) (.seq none .no (.seq none .no (.seq none .no .no)))))))
theorem vw39 (R : Ending → World → Prop) (t0 t1 : Value) (w : World) : W Try.prog Try.f39.ntmps (bodyOf Try.f39) an39 ⟨retK Try.prog Try.f39.results.toList fun v w => R (.returned v) w, retK Try.prog Try.f39.results.toList fun v w => R (.returned v) w, []⟩ (args0 0 [t0, t1]) w = vc39 R t0 t1 w := by kernel_rfl
theorem vk39 {R : Ending → World → Prop} {t0 t1 : Value} {w : World} (h : vc39 R t0 t1 w) : Calls Try.prog 39 #[t0, t1] w R :=
  calls_of_W mixed (fn := Try.f39) (c := bodyOf Try.f39) (by kernel_rfl) (by kernel_rfl) an39 (args := [t0, t1]) (by kernel_rfl) (by rw [vw39]; exact h)

/-- (*vault/sched.Sched).Yield -/
def vc40 (R : Ending → World → Prop) (t0 t1 : Value) (w : World) : Prop :=
  callK Try.prog 98 #[t0, t1] w fun t10 w =>
  opK Try.prog (.extract (.const t10) 0) 103 w fun t11 w =>
  opK Try.prog (.extract (.const t10) 1) 28 w fun t12 w =>
  opK Try.prog (.binOp .neq 28 (.const t12) (.const (.int .i64 0)) 28) 4 w fun t14 w =>
  boolK t14
    (R (.returned t12) w)
    (callK Try.prog 33 #[t0, t1, t11] w fun t19 w =>
    R (.returned (.int .i64 0)) w)
def an40 : Ann := (.seq none .no (.seq none .no (.seq none (.seq none .no (.two (.seq none .no .no) .no)) (.seq none .no (.seq none .no .no)))))
theorem vw40 (R : Ending → World → Prop) (t0 t1 : Value) (w : World) : W Try.prog Try.f40.ntmps (bodyOf Try.f40) an40 ⟨retK Try.prog Try.f40.results.toList fun v w => R (.returned v) w, retK Try.prog Try.f40.results.toList fun v w => R (.returned v) w, []⟩ (args0 0 [t0, t1]) w = vc40 R t0 t1 w := by kernel_rfl
theorem vk40 {R : Ending → World → Prop} {t0 t1 : Value} {w : World} (h : vc40 R t0 t1 w) : Calls Try.prog 40 #[t0, t1] w R :=
  calls_of_W mixed (fn := Try.f40) (c := bodyOf Try.f40) (by kernel_rfl) (by kernel_rfl) an40 (args := [t0, t1]) (by kernel_rfl) (by rw [vw40]; exact h)

/-- (*vault/vaultref.Sched).Yield -/
def vc41 (R : Ending → World → Prop) (t0 t1 : Value) (w : World) : Prop :=
  callK Try.prog 96 #[t0, t1] w fun t8 w =>
  opK Try.prog (.binOp .lss 3 (.const t8) (.const (.int .i64 0)) 3) 4 w fun t10 w =>
  boolK t10
    (R (.returned (.int .i64 6)) w)
    (opK Try.prog (.nilCheck (.const t0)) 0 w fun t12 w =>
    opK Try.prog (.fieldAddr 102 (.const t12) 3) 0 w fun t13 w =>
    ld1 t13 w fun t14 w =>
    opK Try.prog (.indexAddr 100 (.const t14) (.const t8)) 0 w fun t16 w =>
    opK Try.prog (.fieldAddr 168 (.const t16) 4) 0 w fun t17 w =>
    ld1 t17 w fun t18 w =>
    opK Try.prog (.binOp .eql 3 (.const t18) (.const (.int .i64 0)) 3) 4 w fun t19 w =>
    boolK t19
      (R (.returned (.int .i64 16)) w)
      (callK Try.prog 97 #[t0, t8] w fun t22 w =>
      R (.returned (.int .i64 0)) w))
def an41 : Ann := (.seq none .no (.seq none .no (.seq none (.seq none .no (.two (.seq none .no .no) .no)) (.seq none (.seq none .no (.two (.seq none .no .no) .no)) (.seq none .no (.seq none .no .no))))))
theorem vw41 (R : Ending → World → Prop) (t0 t1 : Value) (w : World) : W Try.prog Try.f41.ntmps (bodyOf Try.f41) an41 ⟨retK Try.prog Try.f41.results.toList fun v w => R (.returned v) w, retK Try.prog Try.f41.results.toList fun v w => R (.returned v) w, []⟩ (args0 0 [t0, t1]) w = vc41 R t0 t1 w := by kernel_rfl
theorem vk41 {R : Ending → World → Prop} {t0 t1 : Value} {w : World} (h : vc41 R t0 t1 w) : Calls Try.prog 41 #[t0, t1] w R :=
  calls_of_W mixed (fn := Try.f41) (c := bodyOf Try.f41) (by kernel_rfl) (by kernel_rfl) an41 (args := [t0, t1]) (by kernel_rfl) (by rw [vw41]; exact h)

/-- (*vault/sched.Sched).Prio -/
def vc42 (R : Ending → World → Prop) (t0 t1 t2 : Value) (w : World) : Prop :=
  opK Try.prog (.nilCheck (.const t0)) 0 w fun t9 w =>
  opK Try.prog (.fieldAddr 99 (.const t9) 3) 0 w fun t10 w =>
  ld1 t10 w fun t11 w =>
  opK Try.prog (.lookup 92 (.const t11) (.const t1) false) 103 w fun t13 w =>
  opK Try.prog (.binOp .eql 103 (.const t13) (.const (.pointer none)) 103) 4 w fun t16 w =>
  boolK t16
    (R (.returned (.int .i64 6)) w)
    (opK Try.prog (.binOp .lss 3 (.const t2) (.const (.int .i64 0)) 3) 4 w fun t19 w =>
    gK t19 false w (fun K => K t2 w) fun t21 w =>
    gK t19 false w (fun K => opK Try.prog (.binOp .geq 3 (.const t21) (.const (.int .i64 8)) 3) 4 w K) fun t22 w =>
    opK Try.prog (.pick (.const t19) (.const (.bool true)) (.const t22)) 4 w fun t23 w =>
    boolK t23
      (R (.returned (.int .i64 1)) w)
      (callK Try.prog 93 #[t0, t1, t13] w fun t27 w =>
      opK Try.prog (.nilCheck (.const t13)) 0 w fun t30 w =>
      opK Try.prog (.fieldAddr 105 (.const t30) 1) 0 w fun t31 w =>
      st1 t31 t2 w fun _ w =>
      opK Try.prog (.nilCheck (.const t13)) 0 w fun t33 w =>
      opK Try.prog (.fieldAddr 105 (.const t33) 3) 0 w fun t34 w =>
      ld1 t34 w fun t35 w =>
      boolK t35
        (callK Try.prog 33 #[t0, t1, t13] w fun t39 w =>
        R (.returned (.int .i64 0)) w)
        (R (.returned (.int .i64 0)) w)))
def an42 : Ann := (.seq none .no (.seq none .no (.seq none (.one (.seq none .no (.two (.seq none .no .no) (.seq none .no (.two (.seq none .no .no) .no))))) (.seq none .no (.seq none .no (.seq none (.seq none .no (.two .no .no)) (.seq none .no .no)))))))
theorem vw42 (R : Ending → World → Prop) (t0 t1 t2 : Value) (w : World) : W Try.prog Try.f42.ntmps (bodyOf Try.f42) an42 ⟨retK Try.prog Try.f42.results.toList fun v w => R (.returned v) w, retK Try.prog Try.f42.results.toList fun v w => R (.returned v) w, []⟩ (args0 0 [t0, t1, t2]) w = vc42 R t0 t1 t2 w := by kernel_rfl
theorem vk42 {R : Ending → World → Prop} {t0 t1 t2 : Value} {w : World} (h : vc42 R t0 t1 t2 w) : Calls Try.prog 42 #[t0, t1, t2] w R :=
  calls_of_W mixed (fn := Try.f42) (c := bodyOf Try.f42) (by kernel_rfl) (by kernel_rfl) an42 (args := [t0, t1, t2]) (by kernel_rfl) (by rw [vw42]; exact h)

/-- (*vault/vaultref.Sched).Prio -/
def vc43 (R : Ending → World → Prop) (t0 t1 t2 : Value) (w : World) : Prop :=
  callK Try.prog 96 #[t0, t1] w fun t10 w =>
  opK Try.prog (.binOp .lss 3 (.const t10) (.const (.int .i64 0)) 3) 4 w fun t12 w =>
  boolK t12
    (R (.returned (.int .i64 6)) w)
    (opK Try.prog (.binOp .lss 3 (.const t2) (.const (.int .i64 0)) 3) 4 w fun t14 w =>
    gK t14 false w (fun K => K t2 w) fun t16 w =>
    gK t14 false w (fun K => opK Try.prog (.binOp .gtr 3 (.const t16) (.const (.int .i64 7)) 3) 4 w K) fun t17 w =>
    opK Try.prog (.pick (.const t14) (.const (.bool true)) (.const t17)) 4 w fun t18 w =>
    boolK t18
      (R (.returned (.int .i64 1)) w)
      (opK Try.prog (.nilCheck (.const t0)) 0 w fun t20 w =>
      opK Try.prog (.fieldAddr 102 (.const t20) 3) 0 w fun t21 w =>
      ld1 t21 w fun t22 w =>
      opK Try.prog (.indexAddr 100 (.const t22) (.const t10)) 0 w fun t25 w =>
      opK Try.prog (.fieldAddr 168 (.const t25) 2) 0 w fun t26 w =>
      st1 t26 t2 w fun _ w =>
      opK Try.prog (.nilCheck (.const t0)) 0 w fun t28 w =>
      opK Try.prog (.fieldAddr 102 (.const t28) 3) 0 w fun t29 w =>
      ld1 t29 w fun t30 w =>
      opK Try.prog (.indexAddr 100 (.const t30) (.const t10)) 0 w fun t32 w =>
      opK Try.prog (.fieldAddr 168 (.const t32) 4) 0 w fun t33 w =>
      ld1 t33 w fun t34 w =>
      opK Try.prog (.binOp .gtr 3 (.const t34) (.const (.int .i64 0)) 3) 4 w fun t35 w =>
      boolK t35
        (callK Try.prog 97 #[t0, t10] w fun t38 w =>
        R (.returned (.int .i64 0)) w)
        (R (.returned (.int .i64 0)) w)))
def an43 : Ann := (.seq none .no (.seq none .no (.seq none (.seq none .no (.two (.seq none .no .no) .no)) (.seq none (.seq none .no (.two (.seq none .no .no) .no)) (.seq none .no (.seq none (.seq none .no (.two .no .no)) (.seq none .no .no)))))))
theorem vw43 (R : Ending → World → Prop) (t0 t1 t2 : Value) (w : World) : W Try.prog Try.f43.ntmps (bodyOf Try.f43) an43 ⟨retK Try.prog Try.f43.results.toList fun v w => R (.returned v) w, retK Try.prog Try.f43.results.toList fun v w => R (.returned v) w, []⟩ (args0 0 [t0, t1, t2]) w = vc43 R t0 t1 t2 w := by kernel_rfl
theorem vk43 {R : Ending → World → Prop} {t0 t1 t2 : Value} {w : World} (h : vc43 R t0 t1 t2 w) : Calls Try.prog 43 #[t0, t1, t2] w R :=
  calls_of_W mixed (fn := Try.f43) (c := bodyOf Try.f43) (by kernel_rfl) (by kernel_rfl) an43 (args := [t0, t1, t2]) (by kernel_rfl) (by rw [vw43]; exact h)

/-- vault/vaultlaw.pick -/
def vc44 (R : Ending → World → Prop) (t0 t1 : Value) (w : World) : Prop :=
  joinK 1 (fun (M1 : Value → World → Prop) =>
    opK Try.prog (.binOp .lss 3 (.const t0) (.const (.int .i64 0)) 3) 4 w fun t6 w =>
    boolK t6
      (opK Try.prog (.binOp .add 3 (.const t0) (.const (.int .i64 1)) 3) 3 w fun t8 w =>
      opK Try.prog (.unOp .neg 3 (.const t8)) 3 w fun t9 w =>
      M1 t9 w)
      (M1 t0 w))
    (fun (t0_1 : Value) (w : World) =>
    opK Try.prog (.binOp .rem 3 (.const t0_1) (.const t1) 3) 3 w fun t12 w =>
    R (.returned t12) w)
def an44 : Ann := (.seq none .no (.seq (some [0]) (.seq none .no (.two .no .no)) (.seq none .no .no)))
theorem vw44 (R : Ending → World → Prop) (t0 t1 : Value) (w : World) : W Try.prog Try.f44.ntmps (bodyOf Try.f44) an44 ⟨retK Try.prog Try.f44.results.toList fun v w => R (.returned v) w, retK Try.prog Try.f44.results.toList fun v w => R (.returned v) w, []⟩ (args0 0 [t0, t1]) w = vc44 R t0 t1 w := by kernel_rfl
theorem vk44 {R : Ending → World → Prop} {t0 t1 : Value} {w : World} (h : vc44 R t0 t1 w) : Calls Try.prog 44 #[t0, t1] w R :=
  calls_of_W mixed (fn := Try.f44) (c := bodyOf Try.f44) (by kernel_rfl) (by kernel_rfl) an44 (args := [t0, t1]) (by kernel_rfl) (by rw [vw44]; exact h)

/-- (*vault/vaultref.Sched).Next -/
def vc45 (R : Ending → World → Prop) (t0 : Value) (w : World) : Prop :=
  joinK 0 (fun (M1 : World → Prop) =>
    opK Try.prog (.nilCheck (.const t0)) 0 w fun t6 w =>
    opK Try.prog (.fieldAddr 102 (.const t6) 2) 0 w fun t7 w =>
    ld1 t7 w fun t8 w =>
    opK Try.prog (.binOp .eql 3 (.const t8) (.const (.int .i64 0)) 3) 4 w fun t9 w =>
    boolK t9
      (stK Try.prog (.nilCheck (.const t0)) 0 w.drew fun t12 =>
      stK Try.prog (.fieldAddr 102 (.const t12) 1) 0 w.drew fun t13 =>
      ld1 t13 w.drew fun t14 _ =>
      stK Try.prog (.binOp .add 3 (.const t14) (.const (.int .i64 1)) 3) 3 w.drew fun t15 =>
      stK Try.prog (.nilCheck (.const t0)) 0 w.drew fun t17 =>
      stK Try.prog (.fieldAddr 102 (.const t17) 0) 0 w.drew fun t18 =>
      ld1 t18 w.drew fun t19 _ =>
      stK Try.prog (.call ⟨(.builtin .len), #[(.const t19)], #[24]⟩) 3 w.drew fun t20 =>
      stK Try.prog (.binOp .rem 3 (.const t15) (.const t20) 3) 3 w.drew fun t21 =>
      stK Try.prog (.nilCheck (.const t0)) 0 w.drew fun t22 =>
      stK Try.prog (.fieldAddr 102 (.const t22) 1) 0 w.drew fun t23 =>
      st1 t23 t21 w.drew fun _ w =>
      stK Try.prog (.nilCheck (.const t0)) 0 w.drew fun t26 =>
      stK Try.prog (.fieldAddr 102 (.const t26) 0) 0 w.drew fun t27 =>
      ld1 t27 w.drew fun t28 _ =>
      stK Try.prog (.nilCheck (.const t0)) 0 w.drew fun t30 =>
      stK Try.prog (.fieldAddr 102 (.const t30) 1) 0 w.drew fun t31 =>
      ld1 t31 w.drew fun t32 _ =>
      stK Try.prog (.indexAddr 24 (.const t28) (.const t32)) 0 w.drew fun t33 =>
      stK Try.prog (.fieldAddr 36 (.const t33) 1) 0 w.drew fun t34 =>
      ld1 t34 w.drew fun t35 _ =>
      stK Try.prog (.nilCheck (.const t0)) 0 w.drew fun t36 =>
      stK Try.prog (.fieldAddr 102 (.const t36) 2) 0 w.drew fun t37 =>
      st1 t37 t35 w.drew fun _ w =>
      M1 w)
      (M1 w))
    (fun (w : World) =>
    opK Try.prog (.nilCheck (.const t0)) 0 w fun t39 w =>
    opK Try.prog (.fieldAddr 102 (.const t39) 2) 0 w fun t40 w =>
    ld1 t40 w fun t41 w =>
    opK Try.prog (.binOp .sub 3 (.const t41) (.const (.int .i64 1)) 3) 3 w fun t42 w =>
    opK Try.prog (.nilCheck (.const t0)) 0 w fun t43 w =>
    opK Try.prog (.fieldAddr 102 (.const t43) 2) 0 w fun t44 w =>
    st1 t44 t42 w fun _ w =>
    stK Try.prog (.nilCheck (.const t0)) 0 w.drew fun t46 =>
    stK Try.prog (.fieldAddr 102 (.const t46) 0) 0 w.drew fun t47 =>
    ld1 t47 w.drew fun t48 _ =>
    stK Try.prog (.nilCheck (.const t0)) 0 w.drew fun t50 =>
    stK Try.prog (.fieldAddr 102 (.const t50) 1) 0 w.drew fun t51 =>
    ld1 t51 w.drew fun t52 _ =>
    stK Try.prog (.indexAddr 24 (.const t48) (.const t52)) 0 w.drew fun t53 =>
    stK Try.prog (.fieldAddr 36 (.const t53) 0) 0 w.drew fun t54 =>
    ld1 t54 w.drew fun t55 _ =>
    callK Try.prog 99 #[t0, t55] w.drew fun t58 w =>
    joinK 1 (fun (M2 : Value → World → Prop) =>
      opK Try.prog (.binOp .geq 3 (.const t58) (.const (.int .i64 0)) 3) 4 w fun t60 w =>
      gK t60 true w (fun K => K t0 w) fun t62 w =>
      gK t60 true w (fun K => opK Try.prog (.nilCheck (.const t62)) 0 w K) fun t63 w =>
      gK t60 true w (fun K => opK Try.prog (.fieldAddr 102 (.const t63) 3) 0 w K) fun t64 w =>
      gK t60 true w (fun K => ld1 t64 w K) fun t65 w =>
      gK t60 true w (fun K => K t58 w) fun t66 w =>
      gK t60 true w (fun K => opK Try.prog (.indexAddr 100 (.const t65) (.const t66)) 0 w K) fun t67 w =>
      gK t60 true w (fun K => opK Try.prog (.fieldAddr 168 (.const t67) 3) 0 w K) fun t68 w =>
      gK t60 true w (fun K => ld1 t68 w K) fun t69 w =>
      gK t60 true w (fun K => opK Try.prog (.binOp .eql 3 (.const t69) (.const (.int .i64 0)) 3) 4 w K) fun t70 w =>
      opK Try.prog (.pick (.const t60) (.const t70) (.const (.bool false))) 4 w fun t71 w =>
      boolK t71
        (callK Try.prog 97 #[t0, t58] w fun t74 w =>
        callK Try.prog 99 #[t0, t55] w fun t77 w =>
        M2 t77 w)
        (M2 t58 w))
      (fun (t4 : Value) (w : World) =>
      opK Try.prog (.binOp .lss 3 (.const t4) (.const (.int .i64 0)) 3) 4 w fun t79 w =>
      boolK t79
        (R (.returned (.int .i64 (-1))) w)
        (opK Try.prog (.nilCheck (.const t0)) 0 w fun t81 w =>
        opK Try.prog (.fieldAddr 102 (.const t81) 3) 0 w fun t82 w =>
        ld1 t82 w fun t83 w =>
        opK Try.prog (.indexAddr 100 (.const t83) (.const t4)) 0 w fun t85 w =>
        opK Try.prog (.fieldAddr 168 (.const t85) 3) 0 w fun t86 w =>
        ld1 t86 w fun t87 w =>
        opK Try.prog (.binOp .sub 3 (.const t87) (.const (.int .i64 1)) 3) 3 w fun t88 w =>
        opK Try.prog (.indexAddr 100 (.const t83) (.const t4)) 0 w fun t89 w =>
        opK Try.prog (.fieldAddr 168 (.const t89) 3) 0 w fun t90 w =>
        st1 t90 t88 w fun _ w =>
        opK Try.prog (.nilCheck (.const t0)) 0 w fun t92 w =>
        opK Try.prog (.fieldAddr 102 (.const t92) 3) 0 w fun t93 w =>
        ld1 t93 w fun t94 w =>
        opK Try.prog (.indexAddr 100 (.const t94) (.const t4)) 0 w fun t96 w =>
        opK Try.prog (.fieldAddr 168 (.const t96) 0) 0 w fun t97 w =>
        ld1 t97 w fun t98 w =>
        R (.returned t98) w)))
def an45 : Ann := (.seq none .no (.seq (some []) (.seq none .no (.two (.seq none (.draw 14) (.draw 14)) .no)) (.seq none .no (.seq none (.draw 12) (.seq none .no (.seq (some [4]) (.seq none .no (.two (.seq none .no .no) .no)) (.seq none (.seq none .no (.two (.seq none .no .no) .no)) (.seq none .no (.seq none .no .no)))))))))
theorem vw45 (R : Ending → World → Prop) (t0 : Value) (w : World) : W Try.prog Try.f45.ntmps (bodyOf Try.f45) an45 ⟨retK Try.prog Try.f45.results.toList fun v w => R (.returned v) w, retK Try.prog Try.f45.results.toList fun v w => R (.returned v) w, []⟩ (args0 0 [t0]) w = vc45 R t0 w := by kernel_rfl
theorem vk45 {R : Ending → World → Prop} {t0 : Value} {w : World} (h : vc45 R t0 w) : Calls Try.prog 45 #[t0] w R :=
  calls_of_W mixed (fn := Try.f45) (c := bodyOf Try.f45) (by kernel_rfl) (by kernel_rfl) an45 (args := [t0]) (by kernel_rfl) (by rw [vw45]; exact h)

/-- (*vault/sched.Sched).Turn -/
def vc46 (R : Ending → World → Prop) (t0 : Value) (w : World) : Prop :=
  stK Try.prog (.nilCheck (.const t0)) 0 w.drew fun t5 =>
  stK Try.prog (.fieldAddr 99 (.const t5) 1) 0 w.drew fun t6 =>
  ld1 t6 w.drew fun t7 _ =>
  stK Try.prog (.nilCheck (.const t0)) 0 w.drew fun t9 =>
  stK Try.prog (.fieldAddr 99 (.const t9) 2) 0 w.drew fun t10 =>
  ld1 t10 w.drew fun t11 _ =>
  R (.returned (.tuple #[t7, t11])) w.drew
def an46 : Ann := (.seq none .no (.seq none (.draw 10) .no))
theorem vw46 (R : Ending → World → Prop) (t0 : Value) (w : World) : W Try.prog Try.f46.ntmps (bodyOf Try.f46) an46 ⟨retK Try.prog Try.f46.results.toList fun v w => R (.returned v) w, retK Try.prog Try.f46.results.toList fun v w => R (.returned v) w, []⟩ (args0 0 [t0]) w = vc46 R t0 w := by kernel_rfl
theorem vk46 {R : Ending → World → Prop} {t0 : Value} {w : World} (h : vc46 R t0 w) : Calls Try.prog 46 #[t0] w R :=
  calls_of_W mixed (fn := Try.f46) (c := bodyOf Try.f46) (by kernel_rfl) (by kernel_rfl) an46 (args := [t0]) (by kernel_rfl) (by rw [vw46]; exact h)

/-- (*vault/vaultref.Sched).Turn -/
def vc47 (R : Ending → World → Prop) (t0 : Value) (w : World) : Prop :=
  stK Try.prog (.nilCheck (.const t0)) 0 w.drew fun t5 =>
  stK Try.prog (.fieldAddr 102 (.const t5) 1) 0 w.drew fun t6 =>
  ld1 t6 w.drew fun t7 _ =>
  stK Try.prog (.nilCheck (.const t0)) 0 w.drew fun t9 =>
  stK Try.prog (.fieldAddr 102 (.const t9) 2) 0 w.drew fun t10 =>
  ld1 t10 w.drew fun t11 _ =>
  R (.returned (.tuple #[t7, t11])) w.drew
def an47 : Ann := (.seq none .no (.seq none (.draw 10) .no))
theorem vw47 (R : Ending → World → Prop) (t0 : Value) (w : World) : W Try.prog Try.f47.ntmps (bodyOf Try.f47) an47 ⟨retK Try.prog Try.f47.results.toList fun v w => R (.returned v) w, retK Try.prog Try.f47.results.toList fun v w => R (.returned v) w, []⟩ (args0 0 [t0]) w = vc47 R t0 w := by kernel_rfl
theorem vk47 {R : Ending → World → Prop} {t0 : Value} {w : World} (h : vc47 R t0 w) : Calls Try.prog 47 #[t0] w R :=
  calls_of_W mixed (fn := Try.f47) (c := bodyOf Try.f47) (by kernel_rfl) (by kernel_rfl) an47 (args := [t0]) (by kernel_rfl) (by rw [vw47]; exact h)

/-- (*vault/sched.Sched).Queue -/
def vc48 (R : Ending → World → Prop) (t0 t1 t2 : Value) (w : World) : Prop :=
  opK Try.prog (.binOp .lss 3 (.const t1) (.const (.int .i64 0)) 3) 4 w fun t9 w =>
  gK t9 false w (fun K => K t1 w) fun t11 w =>
  gK t9 false w (fun K => opK Try.prog (.binOp .geq 3 (.const t11) (.const (.int .i64 8)) 3) 4 w K) fun t12 w =>
  opK Try.prog (.pick (.const t9) (.const (.bool true)) (.const t12)) 4 w fun t13 w =>
  gK t13 false w (fun K => K t2 w) fun t15 w =>
  gK t13 false w (fun K => opK Try.prog (.binOp .lss 3 (.const t15) (.const (.int .i64 0)) 3) 4 w K) fun t16 w =>
  opK Try.prog (.pick (.const t13) (.const (.bool true)) (.const t16)) 4 w fun t17 w =>
  gK t17 false w (fun K => K t2 w) fun t19 w =>
  gK t17 false w (fun K => opK Try.prog (.binOp .geq 3 (.const t19) (.const (.int .i64 8)) 3) 4 w K) fun t20 w =>
  opK Try.prog (.pick (.const t17) (.const (.bool true)) (.const t20)) 4 w fun t21 w =>
  boolK t21
    (R (.returned (.tuple #[(.slice none 0 0), (.int .i64 1)])) w)
    (opK Try.prog (.nilCheck (.const t0)) 0 w fun t25 w =>
    opK Try.prog (.fieldAddr 99 (.const t25) 4) 0 w fun t26 w =>
    opK Try.prog (.indexAddr 97 (.const t26) (.const t1)) 0 w fun t27 w =>
    opK Try.prog (.indexAddr 96 (.const t27) (.const t2)) 0 w fun t28 w =>
    callK Try.prog 101 #[t28] w fun t29 w =>
    callK Try.prog 100 #[t29] w fun t30 w =>
    R (.returned (.tuple #[t30, (.int .i64 0)])) w)
def an48 : Ann := (.seq none .no (.seq none (.seq none .no (.two (.seq none .no .no) .no)) (.seq none .no .no)))
theorem vw48 (R : Ending → World → Prop) (t0 t1 t2 : Value) (w : World) : W Try.prog Try.f48.ntmps (bodyOf Try.f48) an48 ⟨retK Try.prog Try.f48.results.toList fun v w => R (.returned v) w, retK Try.prog Try.f48.results.toList fun v w => R (.returned v) w, []⟩ (args0 0 [t0, t1, t2]) w = vc48 R t0 t1 t2 w := by kernel_rfl
theorem vk48 {R : Ending → World → Prop} {t0 t1 t2 : Value} {w : World} (h : vc48 R t0 t1 t2 w) : Calls Try.prog 48 #[t0, t1, t2] w R :=
  calls_of_W mixed (fn := Try.f48) (c := bodyOf Try.f48) (by kernel_rfl) (by kernel_rfl) an48 (args := [t0, t1, t2]) (by kernel_rfl) (by rw [vw48]; exact h)

/-- (*vault/vaultref.Sched).Queue -/
def vc49 (R : Ending → World → Prop) (t0 t1 t2 : Value) (w : World) : Prop :=
  opK Try.prog (.binOp .lss 3 (.const t1) (.const (.int .i64 0)) 3) 4 w fun t16 w =>
  gK t16 false w (fun K => K t1 w) fun t18 w =>
  gK t16 false w (fun K => opK Try.prog (.binOp .gtr 3 (.const t18) (.const (.int .i64 7)) 3) 4 w K) fun t19 w =>
  opK Try.prog (.pick (.const t16) (.const (.bool true)) (.const t19)) 4 w fun t20 w =>
  gK t20 false w (fun K => K t2 w) fun t22 w =>
  gK t20 false w (fun K => opK Try.prog (.binOp .lss 3 (.const t22) (.const (.int .i64 0)) 3) 4 w K) fun t23 w =>
  opK Try.prog (.pick (.const t20) (.const (.bool true)) (.const t23)) 4 w fun t24 w =>
  gK t24 false w (fun K => K t2 w) fun t26 w =>
  gK t24 false w (fun K => opK Try.prog (.binOp .gtr 3 (.const t26) (.const (.int .i64 7)) 3) 4 w K) fun t27 w =>
  opK Try.prog (.pick (.const t24) (.const (.bool true)) (.const t27)) 4 w fun t28 w =>
  boolK t28
    (R (.returned (.tuple #[(.slice none 0 0), (.int .i64 1)])) w)
    ((loopK 2 (fun (N1 : Value → Value → World → Prop) (t8 : Value) (t9 : Value) (w : World) =>
      opK Try.prog (.nilCheck (.const t0)) 0 w fun t31 w =>
      opK Try.prog (.fieldAddr 102 (.const t31) 3) 0 w fun t32 w =>
      ld1 t32 w fun t33 w =>
      opK Try.prog (.call ⟨(.builtin .len), #[(.const t33)], #[100]⟩) 3 w fun t34 w =>
      opK Try.prog (.binOp .lss 3 (.const t9) (.const t34) 3) 4 w fun t35 w =>
      boolK t35
        (joinK 1 (fun (M2 : Value → World → Prop) =>
          opK Try.prog (.nilCheck (.const t0)) 0 w fun t39 w =>
          opK Try.prog (.fieldAddr 102 (.const t39) 3) 0 w fun t40 w =>
          ld1 t40 w fun t41 w =>
          opK Try.prog (.indexAddr 100 (.const t41) (.const t9)) 0 w fun t43 w =>
          ldn 5 t43 w fun t44 w =>
          opK Try.prog (.alloc 168) 0 w fun t10 w =>
          stn 5 t10 t44 w fun _ w =>
          opK Try.prog (.fieldAddr 168 (.const t10) 1) 0 w fun t45 w =>
          ld1 t45 w fun t46 w =>
          opK Try.prog (.binOp .neq 3 (.const t46) (.const t1) 3) 4 w fun t48 w =>
          gK t48 false w (fun K => opK Try.prog (.fieldAddr 168 (.const t10) 2) 0 w K) fun t50 w =>
          gK t48 false w (fun K => ld1 t50 w K) fun t51 w =>
          gK t48 false w (fun K => K t2 w) fun t52 w =>
          gK t48 false w (fun K => opK Try.prog (.binOp .neq 3 (.const t51) (.const t52) 3) 4 w K) fun t53 w =>
          opK Try.prog (.pick (.const t48) (.const (.bool true)) (.const t53)) 4 w fun t54 w =>
          gK t54 false w (fun K => opK Try.prog (.fieldAddr 168 (.const t10) 4) 0 w K) fun t56 w =>
          gK t54 false w (fun K => ld1 t56 w K) fun t57 w =>
          gK t54 false w (fun K => opK Try.prog (.binOp .eql 3 (.const t57) (.const (.int .i64 0)) 3) 4 w K) fun t58 w =>
          opK Try.prog (.pick (.const t54) (.const (.bool true)) (.const t58)) 4 w fun t59 w =>
          boolK t59
            (M2 t8 w)
            (ldn 5 t10 w fun t61 w =>
            opK Try.prog (.buildSlice 100 1 #[(0, (.const t61))]) 100 w fun t62 w =>
            opK Try.prog (.call ⟨(.builtin .append), #[(.const t8), (.const t62)], #[100, 100]⟩) 100 w fun t63 w =>
            opK Try.prog (.call ⟨(.builtin .len), #[(.const t63)], #[100]⟩) 3 w fun t65 w =>
            opK Try.prog (.binOp .sub 3 (.const t65) (.const (.int .i64 1)) 3) 3 w fun t66 w =>
            (loopK 1 (fun (N3 : Value → World → Prop) (t11 : Value) (w : World) =>
              stK Try.prog (.binOp .gtr 3 (.const t11) (.const (.int .i64 0)) 3) 4 w.drew fun t68 =>
              gS t68 true (fun K => K t63) fun t70 =>
              gS t68 true (fun K => K t11) fun t71 =>
              gS t68 true (fun K => stK Try.prog (.indexAddr 100 (.const t70) (.const t71)) 0 w.drew K) fun t72 =>
              gS t68 true (fun K => stK Try.prog (.fieldAddr 168 (.const t72) 4) 0 w.drew K) fun t73 =>
              gS t68 true (fun K => ld1 t73 w.drew fun v _ => K v) fun t74 =>
              gS t68 true (fun K => K t63) fun t75 =>
              gS t68 true (fun K => K t11) fun t76 =>
              gS t68 true (fun K => stK Try.prog (.binOp .sub 3 (.const t76) (.const (.int .i64 1)) 3) 3 w.drew K) fun t77 =>
              gS t68 true (fun K => stK Try.prog (.indexAddr 100 (.const t75) (.const t77)) 0 w.drew K) fun t78 =>
              gS t68 true (fun K => stK Try.prog (.fieldAddr 168 (.const t78) 4) 0 w.drew K) fun t79 =>
              gS t68 true (fun K => ld1 t79 w.drew fun v _ => K v) fun t80 =>
              gS t68 true (fun K => stK Try.prog (.binOp .lss 3 (.const t74) (.const t80) 3) 4 w.drew K) fun t81 =>
              stK Try.prog (.pick (.const t68) (.const t81) (.const (.bool false))) 4 w.drew fun t82 =>
              boolK t82
                (opK Try.prog (.indexAddr 100 (.const t63) (.const t11)) 0 w.drew fun t87 w =>
                ldn 5 t87 w fun t88 w =>
                opK Try.prog (.alloc 168) 0 w fun t12 w =>
                stn 5 t12 t88 w fun _ w =>
                opK Try.prog (.binOp .sub 3 (.const t11) (.const (.int .i64 1)) 3) 3 w fun t93 w =>
                opK Try.prog (.indexAddr 100 (.const t63) (.const t93)) 0 w fun t94 w =>
                ldn 5 t94 w fun t95 w =>
                opK Try.prog (.indexAddr 100 (.const t63) (.const t11)) 0 w fun t96 w =>
                stn 5 t96 t95 w fun _ w =>
                opK Try.prog (.binOp .sub 3 (.const t11) (.const (.int .i64 1)) 3) 3 w fun t99 w =>
                ldn 5 t12 w fun t100 w =>
                opK Try.prog (.indexAddr 100 (.const t63) (.const t99)) 0 w fun t101 w =>
                stn 5 t101 t100 w fun _ w =>
                opK Try.prog (.binOp .sub 3 (.const t11) (.const (.int .i64 1)) 3) 3 w fun t84 w =>
                N3 t84 w)
                (M2 t63 w.drew)) : Value → World → Prop) t66 w))
          (fun (t8_1 : Value) (w : World) =>
          opK Try.prog (.binOp .add 3 (.const t9) (.const (.int .i64 1)) 3) 3 w fun t37 w =>
          N1 t8_1 t37 w))
        ((loopK 2 (fun (N4 : Value → Value → World → Prop) (t13 : Value) (t14 : Value) (w : World) =>
          opK Try.prog (.call ⟨(.builtin .len), #[(.const t8)], #[100]⟩) 3 w fun t104 w =>
          opK Try.prog (.binOp .lss 3 (.const t14) (.const t104) 3) 4 w fun t105 w =>
          boolK t105
            (opK Try.prog (.indexAddr 100 (.const t8) (.const t14)) 0 w fun t111 w =>
            opK Try.prog (.fieldAddr 168 (.const t111) 0) 0 w fun t112 w =>
            ld1 t112 w fun t113 w =>
            opK Try.prog (.buildSlice 69 1 #[(0, (.const t113))]) 69 w fun t114 w =>
            opK Try.prog (.call ⟨(.builtin .append), #[(.const t13), (.const t114)], #[69, 69]⟩) 69 w fun t115 w =>
            opK Try.prog (.binOp .add 3 (.const t14) (.const (.int .i64 1)) 3) 3 w fun t107 w =>
            N4 t115 t107 w)
            (R (.returned (.tuple #[t13, (.int .i64 0)])) w)) : Value → Value → World → Prop) (.slice none 0 0) (.int .i64 0) w)) : Value → Value → World → Prop) (.slice none 0 0) (.int .i64 0) w)
def an49 : Ann := (.cut [0, 1, 2] .no (.cut [0, 1, 2] (.cut [0, 1, 2, 28] .no (.two (.cut [6, 7] .no .no) .no)) (.cut [0, 1, 2, 8] .no (.cut [8] (.cut [0, 1, 2, 8, 9] .no (.one (.loop [8, 9] (.cut [0, 1, 2, 8, 9] (.cut [0, 1, 2, 8, 9, 35] .no (.two .no .no)) (.seq (some [8]) (.one (.cut [0, 1, 2, 8, 9, 10] .no (.cut [0, 1, 2, 8, 9, 10] (.cut [0, 1, 2, 8, 9, 10, 59] .no (.two .no .no)) (.cut [0, 1, 2, 8, 9] .no (.cut [0, 1, 2, 8, 9, 11] .no (.one (.loop [11] (.cut [0, 1, 2, 8, 9, 11] (.cut [0, 1, 2, 8, 9, 11, 82] (.draw 16) (.two .no .no)) (.cut [0, 1, 2, 8, 9, 11] (.one (.cut [0, 1, 2, 8, 9, 11, 12] .no (.cut [0, 1, 2, 8, 9, 11, 12] .no .no))) .no))))))))) .no))))) (.cut [8, 13] .no (.cut [13] (.cut [8, 13, 14] .no (.one (.loop [13, 14] (.cut [8, 13, 14] (.cut [8, 13, 14, 105] .no (.two .no .no)) (.cut [8, 13, 14] (.one .no) .no))))) (.cut [6, 7] .no .no)))))))
theorem vw49 (R : Ending → World → Prop) (t0 t1 t2 : Value) (w : World) : W Try.prog Try.f49.ntmps (bodyOf Try.f49) an49 ⟨retK Try.prog Try.f49.results.toList fun v w => R (.returned v) w, retK Try.prog Try.f49.results.toList fun v w => R (.returned v) w, []⟩ (args0 0 [t0, t1, t2]) w = vc49 R t0 t1 t2 w := by kernel_rfl
theorem vk49 {R : Ending → World → Prop} {t0 t1 t2 : Value} {w : World} (h : vc49 R t0 t1 t2 w) : Calls Try.prog 49 #[t0, t1, t2] w R :=
  calls_of_W mixed (fn := Try.f49) (c := bodyOf Try.f49) (by kernel_rfl) (by kernel_rfl) an49 (args := [t0, t1, t2]) (by kernel_rfl) (by rw [vw49]; exact h)

/-- vault/vaultlaw.sameInts -/
def vc50 (R : Ending → World → Prop) (t0 t1 : Value) (w : World) : Prop :=
  opK Try.prog (.call ⟨(.builtin .len), #[(.const t0)], #[69]⟩) 3 w fun t7 w =>
  opK Try.prog (.call ⟨(.builtin .len), #[(.const t1)], #[69]⟩) 3 w fun t9 w =>
  opK Try.prog (.binOp .neq 3 (.const t7) (.const t9) 3) 4 w fun t10 w =>
  boolK t10
    (R (.returned (.bool false)) w)
    ((loopK 1 (fun (N1 : Value → World → Prop) (t5 : Value) (w : World) =>
      opK Try.prog (.call ⟨(.builtin .len), #[(.const t0)], #[69]⟩) 3 w fun t13 w =>
      opK Try.prog (.binOp .lss 3 (.const t5) (.const t13) 3) 4 w fun t14 w =>
      boolK t14
        (stK Try.prog (.indexAddr 69 (.const t0) (.const t5)) 0 w.drew fun t19 =>
        ld1 t19 w.drew fun t20 _ =>
        stK Try.prog (.indexAddr 69 (.const t1) (.const t5)) 0 w.drew fun t23 =>
        ld1 t23 w.drew fun t24 _ =>
        stK Try.prog (.binOp .neq 3 (.const t20) (.const t24) 3) 4 w.drew fun t25 =>
        boolK t25
          (R (.returned (.bool false)) w.drew)
          (opK Try.prog (.binOp .add 3 (.const t5) (.const (.int .i64 1)) 3) 3 w.drew fun t16 w =>
          N1 t16 w))
        (R (.returned (.bool true)) w)) : Value → World → Prop) (.int .i64 0) w)
def an50 : Ann := (.seq none .no (.seq none (.seq none .no (.two (.seq none .no .no) .no)) (.seq none (.seq none .no (.one (.loop [5] (.seq none (.seq none .no (.two .no .no)) (.seq none (.one (.seq none (.draw 9) (.two (.seq none .no .no) .no))) .no))))) (.seq none .no .no))))
theorem vw50 (R : Ending → World → Prop) (t0 t1 : Value) (w : World) : W Try.prog Try.f50.ntmps (bodyOf Try.f50) an50 ⟨retK Try.prog Try.f50.results.toList fun v w => R (.returned v) w, retK Try.prog Try.f50.results.toList fun v w => R (.returned v) w, []⟩ (args0 0 [t0, t1]) w = vc50 R t0 t1 w := by kernel_rfl
theorem vk50 {R : Ending → World → Prop} {t0 t1 : Value} {w : World} (h : vc50 R t0 t1 w) : Calls Try.prog 50 #[t0, t1] w R :=
  calls_of_W mixed (fn := Try.f50) (c := bodyOf Try.f50) (by kernel_rfl) (by kernel_rfl) an50 (args := [t0, t1]) (by kernel_rfl) (by rw [vw50]; exact h)

/-- (*vault/vaultlaw.Books).ownInts -/
def vc51 (R : Ending → World → Prop) (t0 t1 : Value) (w : World) : Prop :=
  opK Try.prog (.nilCheck (.const t0)) 0 w fun t9 w =>
  opK Try.prog (.fieldAddr 47 (.const t9) 0) 0 w fun t10 w =>
  ld1 t10 w fun t11 w =>
  opK Try.prog (.call ⟨(.builtin .len), #[(.const t11)], #[40]⟩) 3 w fun t12 w =>
  opK Try.prog (.binOp .quo 3 (.const t12) (.const (.int .i64 2)) 3) 3 w fun t13 w =>
  opK Try.prog (.binOp .sub 3 (.const (.int .i64 (-77))) (.const t13) 3) 3 w fun t14 w =>
  (loopK 1 (fun (N1 : Value → World → Prop) (t5 : Value) (w : World) =>
    opK Try.prog (.call ⟨(.builtin .len), #[(.const t1)], #[69]⟩) 3 w fun t17 w =>
    opK Try.prog (.binOp .lss 3 (.const t5) (.const t17) 3) 4 w fun t18 w =>
    boolK t18
      (opK Try.prog (.indexAddr 69 (.const t1) (.const t5)) 0 w fun t24 w =>
      st1 t24 t14 w fun _ w =>
      opK Try.prog (.binOp .add 3 (.const t5) (.const (.int .i64 1)) 3) 3 w fun t20 w =>
      N1 t20 w)
      ((loopK 2 (fun (N2 : Value → Value → World → Prop) (t6 : Value) (t7 : Value) (w : World) =>
        opK Try.prog (.binOp .lss 3 (.const t7) (.const (.int .i64 33)) 3) 4 w fun t27 w =>
        boolK t27
          (opK Try.prog (.buildSlice 69 1 #[(0, (.const t14))]) 69 w fun t32 w =>
          opK Try.prog (.call ⟨(.builtin .append), #[(.const t6), (.const t32)], #[69, 69]⟩) 69 w fun t33 w =>
          opK Try.prog (.binOp .add 3 (.const t7) (.const (.int .i64 1)) 3) 3 w fun t29 w =>
          N2 t33 t29 w)
          (opK Try.prog (.nilCheck (.const t0)) 0 w fun t36 w =>
          opK Try.prog (.fieldAddr 47 (.const t36) 0) 0 w fun t37 w =>
          ld1 t37 w fun t38 w =>
          opK Try.prog (.buildSlice 40 2 #[(0, (.const t1)), (1, (.const t6))]) 40 w fun t41 w =>
          opK Try.prog (.call ⟨(.builtin .append), #[(.const t38), (.const t41)], #[40, 40]⟩) 40 w fun t42 w =>
          opK Try.prog (.nilCheck (.const t0)) 0 w fun t43 w =>
          opK Try.prog (.fieldAddr 47 (.const t43) 0) 0 w fun t44 w =>
          st1 t44 t42 w fun _ w =>
          R (.returned (.tuple #[])) w)) : Value → Value → World → Prop) t1 (.int .i64 0) w)) : Value → World → Prop) (.int .i64 0) w
def an51 : Ann := (.seq none .no (.seq none (.seq none .no (.one (.loop [5] (.seq none (.seq none .no (.two .no .no)) (.seq none (.one .no) .no))))) (.seq none .no (.seq none (.seq none .no (.one (.loop [6, 7] (.seq none (.seq none .no (.two .no .no)) (.seq none (.one .no) .no))))) .no))))
theorem vw51 (R : Ending → World → Prop) (t0 t1 : Value) (w : World) : W Try.prog Try.f51.ntmps (bodyOf Try.f51) an51 ⟨retK Try.prog Try.f51.results.toList fun v w => R (.returned v) w, retK Try.prog Try.f51.results.toList fun v w => R (.returned v) w, []⟩ (args0 0 [t0, t1]) w = vc51 R t0 t1 w := by kernel_rfl
theorem vk51 {R : Ending → World → Prop} {t0 t1 : Value} {w : World} (h : vc51 R t0 t1 w) : Calls Try.prog 51 #[t0, t1] w R :=
  calls_of_W mixed (fn := Try.f51) (c := bodyOf Try.f51) (by kernel_rfl) (by kernel_rfl) an51 (args := [t0, t1]) (by kernel_rfl) (by rw [vw51]; exact h)

/-- (*vault/sched.Sched).Look -/
def vc52 (R : Ending → World → Prop) (t0 t1 : Value) (w : World) : Prop :=
  opK Try.prog (.nilCheck (.const t0)) 0 w fun t10 w =>
  opK Try.prog (.fieldAddr 99 (.const t10) 3) 0 w fun t11 w =>
  ld1 t11 w fun t12 w =>
  opK Try.prog (.lookup 92 (.const t12) (.const t1) false) 103 w fun t14 w =>
  opK Try.prog (.binOp .eql 103 (.const t14) (.const (.pointer none)) 103) 4 w fun t16 w =>
  boolK t16
    (R (.returned (.tuple #[(.int .i64 0), (.int .i64 0), (.int .i64 0), (.int .i64 6)])) w)
    (stK Try.prog (.nilCheck (.const t14)) 0 w.drew fun t18 =>
    stK Try.prog (.fieldAddr 105 (.const t18) 0) 0 w.drew fun t19 =>
    ld1 t19 w.drew fun t20 _ =>
    stK Try.prog (.nilCheck (.const t14)) 0 w.drew fun t22 =>
    stK Try.prog (.fieldAddr 105 (.const t22) 1) 0 w.drew fun t23 =>
    ld1 t23 w.drew fun t24 _ =>
    stK Try.prog (.nilCheck (.const t14)) 0 w.drew fun t26 =>
    stK Try.prog (.fieldAddr 105 (.const t26) 2) 0 w.drew fun t27 =>
    ld1 t27 w.drew fun t28 _ =>
    R (.returned (.tuple #[t20, t24, t28, (.int .i64 0)])) w.drew)
def an52 : Ann := (.seq none .no (.seq none .no (.seq none (.seq none .no (.two (.seq none .no .no) .no)) (.seq none (.draw 16) .no))))
theorem vw52 (R : Ending → World → Prop) (t0 t1 : Value) (w : World) : W Try.prog Try.f52.ntmps (bodyOf Try.f52) an52 ⟨retK Try.prog Try.f52.results.toList fun v w => R (.returned v) w, retK Try.prog Try.f52.results.toList fun v w => R (.returned v) w, []⟩ (args0 0 [t0, t1]) w = vc52 R t0 t1 w := by kernel_rfl
theorem vk52 {R : Ending → World → Prop} {t0 t1 : Value} {w : World} (h : vc52 R t0 t1 w) : Calls Try.prog 52 #[t0, t1] w R :=
  calls_of_W mixed (fn := Try.f52) (c := bodyOf Try.f52) (by kernel_rfl) (by kernel_rfl) an52 (args := [t0, t1]) (by kernel_rfl) (by rw [vw52]; exact h)

/-- (*vault/vaultref.Sched).Look -/
def vc53 (R : Ending → World → Prop) (t0 t1 : Value) (w : World) : Prop :=
  callK Try.prog 96 #[t0, t1] w fun t11 w =>
  opK Try.prog (.binOp .lss 3 (.const t11) (.const (.int .i64 0)) 3) 4 w fun t13 w =>
  boolK t13
    (R (.returned (.tuple #[(.int .i64 0), (.int .i64 0), (.int .i64 0), (.int .i64 6)])) w)
    (stK Try.prog (.nilCheck (.const t0)) 0 w.drew fun t15 =>
    stK Try.prog (.fieldAddr 102 (.const t15) 3) 0 w.drew fun t16 =>
    ld1 t16 w.drew fun t17 _ =>
    stK Try.prog (.indexAddr 100 (.const t17) (.const t11)) 0 w.drew fun t19 =>
    stK Try.prog (.fieldAddr 168 (.const t19) 1) 0 w.drew fun t20 =>
    ld1 t20 w.drew fun t21 _ =>
    stK Try.prog (.nilCheck (.const t0)) 0 w.drew fun t23 =>
    stK Try.prog (.fieldAddr 102 (.const t23) 3) 0 w.drew fun t24 =>
    ld1 t24 w.drew fun t25 _ =>
    stK Try.prog (.indexAddr 100 (.const t25) (.const t11)) 0 w.drew fun t27 =>
    stK Try.prog (.fieldAddr 168 (.const t27) 2) 0 w.drew fun t28 =>
    ld1 t28 w.drew fun t29 _ =>
    stK Try.prog (.nilCheck (.const t0)) 0 w.drew fun t31 =>
    stK Try.prog (.fieldAddr 102 (.const t31) 3) 0 w.drew fun t32 =>
    ld1 t32 w.drew fun t33 _ =>
    stK Try.prog (.indexAddr 100 (.const t33) (.const t11)) 0 w.drew fun t35 =>
    stK Try.prog (.fieldAddr 168 (.const t35) 3) 0 w.drew fun t36 =>
    ld1 t36 w.drew fun t37 _ =>
    R (.returned (.tuple #[t21, t29, t37, (.int .i64 0)])) w.drew)
def an53 : Ann := (.seq none .no (.seq none .no (.seq none (.seq none .no (.two (.seq none .no .no) .no)) (.seq none (.draw 28) .no))))
theorem vw53 (R : Ending → World → Prop) (t0 t1 : Value) (w : World) : W Try.prog Try.f53.ntmps (bodyOf Try.f53) an53 ⟨retK Try.prog Try.f53.results.toList fun v w => R (.returned v) w, retK Try.prog Try.f53.results.toList fun v w => R (.returned v) w, []⟩ (args0 0 [t0, t1]) w = vc53 R t0 t1 w := by kernel_rfl
theorem vk53 {R : Ending → World → Prop} {t0 t1 : Value} {w : World} (h : vc53 R t0 t1 w) : Calls Try.prog 53 #[t0, t1] w R :=
  calls_of_W mixed (fn := Try.f53) (c := bodyOf Try.f53) (by kernel_rfl) (by kernel_rfl) an53 (args := [t0, t1]) (by kernel_rfl) (by rw [vw53]; exact h)

/-- (*vault/vaultlaw.Books).readsMore -/
def vc54 (R : Ending → World → Prop) (t0 : Value) (w : World) : Prop :=
  (loopK 1 (fun (N1 : Value → World → Prop) (t3 : Value) (w : World) =>
    opK Try.prog (.nilCheck (.const t0)) 0 w fun t11 w =>
    opK Try.prog (.fieldAddr 47 (.const t11) 3) 0 w fun t12 w =>
    ld1 t12 w fun t13 w =>
    opK Try.prog (.call ⟨(.builtin .len), #[(.const t13)], #[43]⟩) 3 w fun t14 w =>
    opK Try.prog (.binOp .lss 3 (.const t3) (.const t14) 3) 4 w fun t15 w =>
    boolK t15
      ((loopK 1 (fun (N2 : Value → World → Prop) (t4 : Value) (w : World) =>
        opK Try.prog (.nilCheck (.const t0)) 0 w fun t20 w =>
        opK Try.prog (.fieldAddr 47 (.const t20) 3) 0 w fun t21 w =>
        ld1 t21 w fun t22 w =>
        opK Try.prog (.indexAddr 43 (.const t22) (.const t3)) 0 w fun t24 w =>
        ld1 t24 w fun t25 w =>
        opK Try.prog (.call ⟨(.builtin .len), #[(.const t25)], #[146]⟩) 3 w fun t26 w =>
        opK Try.prog (.binOp .lss 3 (.const t4) (.const t26) 3) 4 w fun t27 w =>
        boolK t27
          (opK Try.prog (.nilCheck (.const t0)) 0 w fun t31 w =>
          opK Try.prog (.fieldAddr 47 (.const t31) 3) 0 w fun t32 w =>
          ld1 t32 w fun t33 w =>
          opK Try.prog (.indexAddr 43 (.const t33) (.const t3)) 0 w fun t35 w =>
          ld1 t35 w fun t36 w =>
          opK Try.prog (.indexAddr 146 (.const t36) (.const t4)) 0 w fun t38 w =>
          opK Try.prog (.fieldAddr 84 (.const t38) 1) 0 w fun t39 w =>
          ld1 t39 w fun t40 w =>
          opK Try.prog (.binOp .quo 3 (.const t3) (.const (.int .i64 2)) 3) 3 w fun t42 w =>
          opK Try.prog (.binOp .sub 3 (.const (.int .i64 (-77))) (.const t42) 3) 3 w fun t43 w =>
          opK Try.prog (.binOp .neq 3 (.const t40) (.const t43) 3) 4 w fun t44 w =>
          boolK t44
            (R (.returned (.bool false)) w)
            (opK Try.prog (.binOp .add 3 (.const t4) (.const (.int .i64 1)) 3) 3 w fun t29 w =>
            N2 t29 w))
          (opK Try.prog (.binOp .add 3 (.const t3) (.const (.int .i64 1)) 3) 3 w fun t17 w =>
          N1 t17 w)) : Value → World → Prop) (.int .i64 0) w)
      ((loopK 1 (fun (N3 : Value → World → Prop) (t5 : Value) (w : World) =>
        opK Try.prog (.nilCheck (.const t0)) 0 w fun t47 w =>
        opK Try.prog (.fieldAddr 47 (.const t47) 4) 0 w fun t48 w =>
        ld1 t48 w fun t49 w =>
        opK Try.prog (.call ⟨(.builtin .len), #[(.const t49)], #[44]⟩) 3 w fun t50 w =>
        opK Try.prog (.binOp .lss 3 (.const t5) (.const t50) 3) 4 w fun t51 w =>
        boolK t51
          ((loopK 1 (fun (N4 : Value → World → Prop) (t6 : Value) (w : World) =>
            opK Try.prog (.nilCheck (.const t0)) 0 w fun t56 w =>
            opK Try.prog (.fieldAddr 47 (.const t56) 4) 0 w fun t57 w =>
            ld1 t57 w fun t58 w =>
            opK Try.prog (.indexAddr 44 (.const t58) (.const t5)) 0 w fun t60 w =>
            ld1 t60 w fun t61 w =>
            opK Try.prog (.call ⟨(.builtin .len), #[(.const t61)], #[175]⟩) 3 w fun t62 w =>
            opK Try.prog (.binOp .lss 3 (.const t6) (.const t62) 3) 4 w fun t63 w =>
            boolK t63
              (opK Try.prog (.nilCheck (.const t0)) 0 w fun t67 w =>
              opK Try.prog (.fieldAddr 47 (.const t67) 4) 0 w fun t68 w =>
              ld1 t68 w fun t69 w =>
              opK Try.prog (.indexAddr 44 (.const t69) (.const t5)) 0 w fun t71 w =>
              ld1 t71 w fun t72 w =>
              opK Try.prog (.indexAddr 175 (.const t72) (.const t6)) 0 w fun t74 w =>
              opK Try.prog (.fieldAddr 179 (.const t74) 0) 0 w fun t75 w =>
              opK Try.prog (.fieldAddr 117 (.const t75) 0) 0 w fun t76 w =>
              ld1 t76 w fun t77 w =>
              opK Try.prog (.binOp .quo 3 (.const t5) (.const (.int .i64 2)) 3) 3 w fun t79 w =>
              opK Try.prog (.binOp .sub 3 (.const (.int .i64 (-77))) (.const t79) 3) 3 w fun t80 w =>
              opK Try.prog (.binOp .neq 3 (.const t77) (.const t80) 3) 4 w fun t81 w =>
              boolK t81
                (R (.returned (.bool false)) w)
                (opK Try.prog (.binOp .add 3 (.const t6) (.const (.int .i64 1)) 3) 3 w fun t65 w =>
                N4 t65 w))
              (opK Try.prog (.binOp .add 3 (.const t5) (.const (.int .i64 1)) 3) 3 w fun t53 w =>
              N3 t53 w)) : Value → World → Prop) (.int .i64 0) w)
          ((loopK 1 (fun (N5 : Value → World → Prop) (t7 : Value) (w : World) =>
            opK Try.prog (.nilCheck (.const t0)) 0 w fun t84 w =>
            opK Try.prog (.fieldAddr 47 (.const t84) 5) 0 w fun t85 w =>
            ld1 t85 w fun t86 w =>
            opK Try.prog (.call ⟨(.builtin .len), #[(.const t86)], #[45]⟩) 3 w fun t87 w =>
            opK Try.prog (.binOp .lss 3 (.const t7) (.const t87) 3) 4 w fun t88 w =>
            boolK t88
              ((loopK 1 (fun (N6 : Value → World → Prop) (t8 : Value) (w : World) =>
                opK Try.prog (.nilCheck (.const t0)) 0 w fun t93 w =>
                opK Try.prog (.fieldAddr 47 (.const t93) 5) 0 w fun t94 w =>
                ld1 t94 w fun t95 w =>
                opK Try.prog (.indexAddr 45 (.const t95) (.const t7)) 0 w fun t97 w =>
                ld1 t97 w fun t98 w =>
                opK Try.prog (.call ⟨(.builtin .len), #[(.const t98)], #[180]⟩) 3 w fun t99 w =>
                opK Try.prog (.binOp .lss 3 (.const t8) (.const t99) 3) 4 w fun t100 w =>
                boolK t100
                  (opK Try.prog (.nilCheck (.const t0)) 0 w fun t104 w =>
                  opK Try.prog (.fieldAddr 47 (.const t104) 5) 0 w fun t105 w =>
                  ld1 t105 w fun t106 w =>
                  opK Try.prog (.indexAddr 45 (.const t106) (.const t7)) 0 w fun t108 w =>
                  ld1 t108 w fun t109 w =>
                  opK Try.prog (.indexAddr 180 (.const t109) (.const t8)) 0 w fun t111 w =>
                  opK Try.prog (.fieldAddr 185 (.const t111) 0) 0 w fun t112 w =>
                  ld1 t112 w fun t113 w =>
                  opK Try.prog (.binOp .quo 3 (.const t7) (.const (.int .i64 2)) 3) 3 w fun t115 w =>
                  opK Try.prog (.binOp .sub 3 (.const (.int .i64 (-77))) (.const t115) 3) 3 w fun t116 w =>
                  opK Try.prog (.binOp .neq 3 (.const t113) (.const t116) 3) 4 w fun t117 w =>
                  boolK t117
                    (R (.returned (.bool false)) w)
                    (opK Try.prog (.binOp .add 3 (.const t8) (.const (.int .i64 1)) 3) 3 w fun t102 w =>
                    N6 t102 w))
                  (opK Try.prog (.binOp .add 3 (.const t7) (.const (.int .i64 1)) 3) 3 w fun t90 w =>
                  N5 t90 w)) : Value → World → Prop) (.int .i64 0) w)
              (R (.returned (.bool true)) w)) : Value → World → Prop) (.int .i64 0) w)) : Value → World → Prop) (.int .i64 0) w)) : Value → World → Prop) (.int .i64 0) w
def an54 : Ann := (.cut [0] .no (.cut [0] (.cut [0, 3] .no (.one (.loop [3] (.cut [0, 3] (.cut [0, 3, 15] .no (.two .no .no)) (.cut [0, 3] (.one (.cut [0, 3, 4] .no (.one (.loop [4] (.cut [0, 3, 4] (.cut [0, 3, 4, 27] .no (.two .no .no)) (.cut [0, 3, 4] (.one (.cut [0, 3, 4, 44] .no (.two (.cut [2] .no .no) .no))) .no)))))) .no))))) (.cut [0] (.cut [0, 5] .no (.one (.loop [5] (.cut [0, 5] (.cut [0, 5, 51] .no (.two .no .no)) (.cut [0, 5] (.one (.cut [0, 5, 6] .no (.one (.loop [6] (.cut [0, 5, 6] (.cut [0, 5, 6, 63] .no (.two .no .no)) (.cut [0, 5, 6] (.one (.cut [0, 5, 6, 81] .no (.two (.cut [2] .no .no) .no))) .no)))))) .no))))) (.cut [] (.cut [0, 7] .no (.one (.loop [7] (.cut [0, 7] (.cut [0, 7, 88] .no (.two .no .no)) (.cut [0, 7] (.one (.cut [0, 7, 8] .no (.one (.loop [8] (.cut [0, 7, 8] (.cut [0, 7, 8, 100] .no (.two .no .no)) (.cut [0, 7, 8] (.one (.cut [0, 7, 8, 117] .no (.two (.cut [2] .no .no) .no))) .no)))))) .no))))) (.cut [2] .no .no)))))
theorem vw54 (R : Ending → World → Prop) (t0 : Value) (w : World) : W Try.prog Try.f54.ntmps (bodyOf Try.f54) an54 ⟨retK Try.prog Try.f54.results.toList fun v w => R (.returned v) w, retK Try.prog Try.f54.results.toList fun v w => R (.returned v) w, []⟩ (args0 0 [t0]) w = vc54 R t0 w := by kernel_rfl
theorem vk54 {R : Ending → World → Prop} {t0 : Value} {w : World} (h : vc54 R t0 w) : Calls Try.prog 54 #[t0] w R :=
  calls_of_W mixed (fn := Try.f54) (c := bodyOf Try.f54) (by kernel_rfl) (by kernel_rfl) an54 (args := [t0]) (by kernel_rfl) (by rw [vw54]; exact h)

/-- (*vault/fifo.Line[int]).Len -/
def vc55 (R : Ending → World → Prop) (t0 : Value) (w : World) : Prop :=
  opK Try.prog (.nilCheck (.const t0)) 0 w fun t4 w =>
  opK Try.prog (.fieldAddr 94 (.const t4) 0) 0 w fun t5 w =>
  ld1 t5 w fun t6 w =>
  opK Try.prog (.call ⟨(.builtin .len), #[(.const t6)], #[69]⟩) 3 w fun t7 w =>
  R (.returned t7) w
def an55 : Ann := (.seq none .no (.seq none .no .no))
theorem vw55 (R : Ending → World → Prop) (t0 : Value) (w : World) : W Try.prog Try.f55.ntmps (bodyOf Try.f55) an55 ⟨retK Try.prog Try.f55.results.toList fun v w => R (.returned v) w, retK Try.prog Try.f55.results.toList fun v w => R (.returned v) w, []⟩ (args0 0 [t0]) w = vc55 R t0 w := by kernel_rfl
theorem vk55 {R : Ending → World → Prop} {t0 : Value} {w : World} (h : vc55 R t0 w) : Calls Try.prog 55 #[t0] w R :=
  calls_of_W mixed (fn := Try.f55) (c := bodyOf Try.f55) (by kernel_rfl) (by kernel_rfl) an55 (args := [t0]) (by kernel_rfl) (by rw [vw55]; exact h)

/-- (*vault/fifo.Line[int]).First -/
def vc56 (R : Ending → World → Prop) (t0 : Value) (w : World) : Prop :=
  opK Try.prog (.nilCheck (.const t0)) 0 w fun t4 w =>
  opK Try.prog (.fieldAddr 94 (.const t4) 0) 0 w fun t5 w =>
  ld1 t5 w fun t6 w =>
  opK Try.prog (.indexAddr 69 (.const t6) (.const (.int .i64 0))) 0 w fun t7 w =>
  ld1 t7 w fun t8 w =>
  R (.returned t8) w
def an56 : Ann := (.seq none .no (.seq none .no .no))
theorem vw56 (R : Ending → World → Prop) (t0 : Value) (w : World) : W Try.prog Try.f56.ntmps (bodyOf Try.f56) an56 ⟨retK Try.prog Try.f56.results.toList fun v w => R (.returned v) w, retK Try.prog Try.f56.results.toList fun v w => R (.returned v) w, []⟩ (args0 0 [t0]) w = vc56 R t0 w := by kernel_rfl
theorem vk56 {R : Ending → World → Prop} {t0 : Value} {w : World} (h : vc56 R t0 w) : Calls Try.prog 56 #[t0] w R :=
  calls_of_W mixed (fn := Try.f56) (c := bodyOf Try.f56) (by kernel_rfl) (by kernel_rfl) an56 (args := [t0]) (by kernel_rfl) (by rw [vw56]; exact h)

/-- (*vault/sched.Sched).leave -/
def vc93 (R : Ending → World → Prop) (t0 t1 t2 : Value) (w : World) : Prop :=
  opK Try.prog (.box 3 (.const t1)) 0 w fun t4 w =>
  callK Try.prog 94 #[t0, t2] w fun t8 w =>
  opK Try.prog (.makeFunc (.func 127) #[] #[(.const t4)]) 205 w fun t9 w =>
  callK Try.prog 126 #[t8, t9] w fun t10 w =>
  R (.returned (.tuple #[])) w
def an93 : Ann := (.seq none .no .no)
theorem vw93 (R : Ending → World → Prop) (t0 t1 t2 : Value) (w : World) : W Try.prog Try.f93.ntmps (bodyOf Try.f93) an93 ⟨retK Try.prog Try.f93.results.toList fun v w => R (.returned v) w, retK Try.prog Try.f93.results.toList fun v w => R (.returned v) w, []⟩ (args0 0 [t0, t1, t2]) w = vc93 R t0 t1 t2 w := by kernel_rfl
theorem vk93 {R : Ending → World → Prop} {t0 t1 t2 : Value} {w : World} (h : vc93 R t0 t1 t2 w) : Calls Try.prog 93 #[t0, t1, t2] w R :=
  calls_of_W mixed (fn := Try.f93) (c := bodyOf Try.f93) (by kernel_rfl) (by kernel_rfl) an93 (args := [t0, t1, t2]) (by kernel_rfl) (by rw [vw93]; exact h)

/-- (*vault/sched.Sched).queue -/
def vc94 (R : Ending → World → Prop) (t0 t1 : Value) (w : World) : Prop :=
  stK Try.prog (.nilCheck (.const t1)) 0 w.drew fun t7 =>
  stK Try.prog (.fieldAddr 105 (.const t7) 0) 0 w.drew fun t8 =>
  ld1 t8 w.drew fun t9 _ =>
  stK Try.prog (.nilCheck (.const t1)) 0 w.drew fun t11 =>
  stK Try.prog (.fieldAddr 105 (.const t11) 1) 0 w.drew fun t12 =>
  ld1 t12 w.drew fun t13 _ =>
  stK Try.prog (.nilCheck (.const t0)) 0 w.drew fun t14 =>
  stK Try.prog (.fieldAddr 99 (.const t14) 4) 0 w.drew fun t15 =>
  stK Try.prog (.indexAddr 97 (.const t15) (.const t9)) 0 w.drew fun t16 =>
  stK Try.prog (.indexAddr 96 (.const t16) (.const t13)) 0 w.drew fun t17 =>
  R (.returned t17) w.drew
def an94 : Ann := (.seq none .no (.seq none (.draw 14) .no))
theorem vw94 (R : Ending → World → Prop) (t0 t1 : Value) (w : World) : W Try.prog Try.f94.ntmps (bodyOf Try.f94) an94 ⟨retK Try.prog Try.f94.results.toList fun v w => R (.returned v) w, retK Try.prog Try.f94.results.toList fun v w => R (.returned v) w, []⟩ (args0 0 [t0, t1]) w = vc94 R t0 t1 w := by kernel_rfl
theorem vk94 {R : Ending → World → Prop} {t0 t1 : Value} {w : World} (h : vc94 R t0 t1 w) : Calls Try.prog 94 #[t0, t1] w R :=
  calls_of_W mixed (fn := Try.f94) (c := bodyOf Try.f94) (by kernel_rfl) (by kernel_rfl) an94 (args := [t0, t1]) (by kernel_rfl) (by rw [vw94]; exact h)

/-- (*vault/fifo.Line[int]).Push -/
def vc95 (R : Ending → World → Prop) (t0 t1 : Value) (w : World) : Prop :=
  opK Try.prog (.nilCheck (.const t0)) 0 w fun t6 w =>
  opK Try.prog (.fieldAddr 94 (.const t6) 0) 0 w fun t7 w =>
  ld1 t7 w fun t8 w =>
  opK Try.prog (.buildSlice 69 1 #[(0, (.const t1))]) 69 w fun t10 w =>
  opK Try.prog (.call ⟨(.builtin .append), #[(.const t8), (.const t10)], #[69, 69]⟩) 69 w fun t11 w =>
  opK Try.prog (.nilCheck (.const t0)) 0 w fun t12 w =>
  opK Try.prog (.fieldAddr 94 (.const t12) 0) 0 w fun t13 w =>
  st1 t13 t11 w fun _ w =>
  R (.returned (.tuple #[])) w
def an95 : Ann := .no
theorem vw95 (R : Ending → World → Prop) (t0 t1 : Value) (w : World) : W Try.prog Try.f95.ntmps (bodyOf Try.f95) an95 ⟨retK Try.prog Try.f95.results.toList fun v w => R (.returned v) w, retK Try.prog Try.f95.results.toList fun v w => R (.returned v) w, []⟩ (args0 0 [t0, t1]) w = vc95 R t0 t1 w := by kernel_rfl
theorem vk95 {R : Ending → World → Prop} {t0 t1 : Value} {w : World} (h : vc95 R t0 t1 w) : Calls Try.prog 95 #[t0, t1] w R :=
  calls_of_W mixed (fn := Try.f95) (c := bodyOf Try.f95) (by kernel_rfl) (by kernel_rfl) an95 (args := [t0, t1]) (by kernel_rfl) (by rw [vw95]; exact h)

/-- (*vault/vaultref.Sched).find -/
def vc96 (R : Ending → World → Prop) (t0 t1 : Value) (w : World) : Prop :=
  (loopK 1 (fun (N1 : Value → World → Prop) (t5 : Value) (w : World) =>
    opK Try.prog (.nilCheck (.const t0)) 0 w fun t8 w =>
    opK Try.prog (.fieldAddr 102 (.const t8) 3) 0 w fun t9 w =>
    ld1 t9 w fun t10 w =>
    opK Try.prog (.call ⟨(.builtin .len), #[(.const t10)], #[100]⟩) 3 w fun t11 w =>
    opK Try.prog (.binOp .lss 3 (.const t5) (.const t11) 3) 4 w fun t12 w =>
    boolK t12
      (opK Try.prog (.nilCheck (.const t0)) 0 w fun t16 w =>
      opK Try.prog (.fieldAddr 102 (.const t16) 3) 0 w fun t17 w =>
      ld1 t17 w fun t18 w =>
      opK Try.prog (.indexAddr 100 (.const t18) (.const t5)) 0 w fun t20 w =>
      opK Try.prog (.fieldAddr 168 (.const t20) 0) 0 w fun t21 w =>
      ld1 t21 w fun t22 w =>
      opK Try.prog (.binOp .eql 3 (.const t22) (.const t1) 3) 4 w fun t24 w =>
      boolK t24
        (R (.returned t5) w)
        (opK Try.prog (.binOp .add 3 (.const t5) (.const (.int .i64 1)) 3) 3 w fun t14 w =>
        N1 t14 w))
      (R (.returned (.int .i64 (-1))) w)) : Value → World → Prop) (.int .i64 0) w
def an96 : Ann := (.seq none .no (.seq none (.seq none .no (.one (.loop [5] (.seq none (.seq none .no (.two .no .no)) (.seq none (.one (.seq none .no (.two (.seq none .no .no) .no))) .no))))) (.seq none .no .no)))
theorem vw96 (R : Ending → World → Prop) (t0 t1 : Value) (w : World) : W Try.prog Try.f96.ntmps (bodyOf Try.f96) an96 ⟨retK Try.prog Try.f96.results.toList fun v w => R (.returned v) w, retK Try.prog Try.f96.results.toList fun v w => R (.returned v) w, []⟩ (args0 0 [t0, t1]) w = vc96 R t0 t1 w := by kernel_rfl
theorem vk96 {R : Ending → World → Prop} {t0 t1 : Value} {w : World} (h : vc96 R t0 t1 w) : Calls Try.prog 96 #[t0, t1] w R :=
  calls_of_W mixed (fn := Try.f96) (c := bodyOf Try.f96) (by kernel_rfl) (by kernel_rfl) an96 (args := [t0, t1]) (by kernel_rfl) (by rw [vw96]; exact h)

/-- (*vault/vaultref.Sched).last -/
def vc97 (R : Ending → World → Prop) (t0 t1 : Value) (w : World) : Prop :=
  opK Try.prog (.nilCheck (.const t0)) 0 w fun t5 w =>
  opK Try.prog (.fieldAddr 102 (.const t5) 4) 0 w fun t6 w =>
  ld1 t6 w fun t7 w =>
  opK Try.prog (.binOp .add 3 (.const t7) (.const (.int .i64 1)) 3) 3 w fun t8 w =>
  opK Try.prog (.nilCheck (.const t0)) 0 w fun t9 w =>
  opK Try.prog (.fieldAddr 102 (.const t9) 4) 0 w fun t10 w =>
  st1 t10 t8 w fun _ w =>
  stK Try.prog (.nilCheck (.const t0)) 0 w.drew fun t12 =>
  stK Try.prog (.fieldAddr 102 (.const t12) 3) 0 w.drew fun t13 =>
  ld1 t13 w.drew fun t14 _ =>
  stK Try.prog (.nilCheck (.const t0)) 0 w.drew fun t17 =>
  stK Try.prog (.fieldAddr 102 (.const t17) 4) 0 w.drew fun t18 =>
  ld1 t18 w.drew fun t19 _ =>
  stK Try.prog (.indexAddr 100 (.const t14) (.const t1)) 0 w.drew fun t20 =>
  stK Try.prog (.fieldAddr 168 (.const t20) 4) 0 w.drew fun t21 =>
  st1 t21 t19 w.drew fun _ w =>
  opK Try.prog (.nilCheck (.const t0)) 0 w fun t23 w =>
  opK Try.prog (.fieldAddr 102 (.const t23) 3) 0 w fun t24 w =>
  ld1 t24 w fun t25 w =>
  opK Try.prog (.indexAddr 100 (.const t25) (.const t1)) 0 w fun t27 w =>
  opK Try.prog (.fieldAddr 168 (.const t27) 3) 0 w fun t28 w =>
  st1 t28 (.int .i64 5) w fun _ w =>
  R (.returned (.tuple #[])) w
def an97 : Ann := (.seq none .no (.seq none (.draw 11) .no))
theorem vw97 (R : Ending → World → Prop) (t0 t1 : Value) (w : World) : W Try.prog Try.f97.ntmps (bodyOf Try.f97) an97 ⟨retK Try.prog Try.f97.results.toList fun v w => R (.returned v) w, retK Try.prog Try.f97.results.toList fun v w => R (.returned v) w, []⟩ (args0 0 [t0, t1]) w = vc97 R t0 t1 w := by kernel_rfl
theorem vk97 {R : Ending → World → Prop} {t0 t1 : Value} {w : World} (h : vc97 R t0 t1 w) : Calls Try.prog 97 #[t0, t1] w R :=
  calls_of_W mixed (fn := Try.f97) (c := bodyOf Try.f97) (by kernel_rfl) (by kernel_rfl) an97 (args := [t0, t1]) (by kernel_rfl) (by rw [vw97]; exact h)

/-- (*vault/sched.Sched).ready -/
def vc98 (R : Ending → World → Prop) (t0 t1 : Value) (w : World) : Prop :=
  opK Try.prog (.nilCheck (.const t0)) 0 w fun t8 w =>
  opK Try.prog (.fieldAddr 99 (.const t8) 3) 0 w fun t9 w =>
  ld1 t9 w fun t10 w =>
  opK Try.prog (.lookup 92 (.const t10) (.const t1) false) 103 w fun t12 w =>
  opK Try.prog (.binOp .eql 103 (.const t12) (.const (.pointer none)) 103) 4 w fun t15 w =>
  boolK t15
    (R (.returned (.tuple #[(.pointer none), (.int .i64 6)])) w)
    (opK Try.prog (.nilCheck (.const t12)) 0 w fun t18 w =>
    opK Try.prog (.fieldAddr 105 (.const t18) 3) 0 w fun t19 w =>
    ld1 t19 w fun t20 w =>
    opK Try.prog (.unOp .not 4 (.const t20)) 4 w fun t21 w =>
    boolK t21
      (R (.returned (.tuple #[(.pointer none), (.int .i64 16)])) w)
      (R (.returned (.tuple #[t12, (.int .i64 0)])) w))
def an98 : Ann := (.seq none .no (.seq none .no (.seq none (.one (.seq none .no (.two (.seq none .no .no) (.seq none .no (.two (.seq none .no .no) .no))))) (.seq none .no .no))))
theorem vw98 (R : Ending → World → Prop) (t0 t1 : Value) (w : World) : W Try.prog Try.f98.ntmps (bodyOf Try.f98) an98 ⟨retK Try.prog Try.f98.results.toList fun v w => R (.returned v) w, retK Try.prog Try.f98.results.toList fun v w => R (.returned v) w, []⟩ (args0 0 [t0, t1]) w = vc98 R t0 t1 w := by kernel_rfl
theorem vk98 {R : Ending → World → Prop} {t0 t1 : Value} {w : World} (h : vc98 R t0 t1 w) : Calls Try.prog 98 #[t0, t1] w R :=
  calls_of_W mixed (fn := Try.f98) (c := bodyOf Try.f98) (by kernel_rfl) (by kernel_rfl) an98 (args := [t0, t1]) (by kernel_rfl) (by rw [vw98]; exact h)

/-- (*vault/vaultref.Sched).first -/
def vc99 (R : Ending → World → Prop) (t0 t1 : Value) (w : World) : Prop :=
  (loopK 2 (fun (N1 : Value → Value → World → Prop) (t5 : Value) (t6 : Value) (w : World) =>
    opK Try.prog (.nilCheck (.const t0)) 0 w fun t10 w =>
    opK Try.prog (.fieldAddr 102 (.const t10) 3) 0 w fun t11 w =>
    ld1 t11 w fun t12 w =>
    opK Try.prog (.call ⟨(.builtin .len), #[(.const t12)], #[100]⟩) 3 w fun t13 w =>
    opK Try.prog (.binOp .lss 3 (.const t6) (.const t13) 3) 4 w fun t14 w =>
    boolK t14
      (joinK 1 (fun (M2 : Value → World → Prop) =>
        opK Try.prog (.nilCheck (.const t0)) 0 w fun t18 w =>
        opK Try.prog (.fieldAddr 102 (.const t18) 3) 0 w fun t19 w =>
        ld1 t19 w fun t20 w =>
        opK Try.prog (.indexAddr 100 (.const t20) (.const t6)) 0 w fun t22 w =>
        ldn 5 t22 w fun t23 w =>
        opK Try.prog (.alloc 168) 0 w fun t7 w =>
        stn 5 t7 t23 w fun _ w =>
        opK Try.prog (.fieldAddr 168 (.const t7) 1) 0 w fun t24 w =>
        ld1 t24 w fun t25 w =>
        opK Try.prog (.binOp .neq 3 (.const t25) (.const t1) 3) 4 w fun t27 w =>
        gK t27 false w (fun K => opK Try.prog (.fieldAddr 168 (.const t7) 4) 0 w K) fun t29 w =>
        gK t27 false w (fun K => ld1 t29 w K) fun t30 w =>
        gK t27 false w (fun K => opK Try.prog (.binOp .eql 3 (.const t30) (.const (.int .i64 0)) 3) 4 w K) fun t31 w =>
        opK Try.prog (.pick (.const t27) (.const (.bool true)) (.const t31)) 4 w fun t32 w =>
        boolK t32
          (M2 t5 w)
          (stK Try.prog (.binOp .lss 3 (.const t5) (.const (.int .i64 0)) 3) 4 w.drew fun t34 =>
          gS t34 false (fun K => stK Try.prog (.fieldAddr 168 (.const t7) 2) 0 w.drew K) fun t36 =>
          gS t34 false (fun K => ld1 t36 w.drew fun v _ => K v) fun t37 =>
          gS t34 false (fun K => K t0) fun t38 =>
          gS t34 false (fun K => stK Try.prog (.nilCheck (.const t38)) 0 w.drew K) fun t39 =>
          gS t34 false (fun K => stK Try.prog (.fieldAddr 102 (.const t39) 3) 0 w.drew K) fun t40 =>
          gS t34 false (fun K => ld1 t40 w.drew fun v _ => K v) fun t41 =>
          gS t34 false (fun K => K t5) fun t42 =>
          gS t34 false (fun K => stK Try.prog (.indexAddr 100 (.const t41) (.const t42)) 0 w.drew K) fun t43 =>
          gS t34 false (fun K => stK Try.prog (.fieldAddr 168 (.const t43) 2) 0 w.drew K) fun t44 =>
          gS t34 false (fun K => ld1 t44 w.drew fun v _ => K v) fun t45 =>
          gS t34 false (fun K => stK Try.prog (.binOp .gtr 3 (.const t37) (.const t45) 3) 4 w.drew K) fun t46 =>
          stK Try.prog (.pick (.const t34) (.const (.bool true)) (.const t46)) 4 w.drew fun t47 =>
          gS t47 false (fun K => stK Try.prog (.fieldAddr 168 (.const t7) 2) 0 w.drew K) fun t49 =>
          gS t47 false (fun K => ld1 t49 w.drew fun v _ => K v) fun t50 =>
          gS t47 false (fun K => K t0) fun t51 =>
          gS t47 false (fun K => stK Try.prog (.nilCheck (.const t51)) 0 w.drew K) fun t52 =>
          gS t47 false (fun K => stK Try.prog (.fieldAddr 102 (.const t52) 3) 0 w.drew K) fun t53 =>
          gS t47 false (fun K => ld1 t53 w.drew fun v _ => K v) fun t54 =>
          gS t47 false (fun K => K t5) fun t55 =>
          gS t47 false (fun K => stK Try.prog (.indexAddr 100 (.const t54) (.const t55)) 0 w.drew K) fun t56 =>
          gS t47 false (fun K => stK Try.prog (.fieldAddr 168 (.const t56) 2) 0 w.drew K) fun t57 =>
          gS t47 false (fun K => ld1 t57 w.drew fun v _ => K v) fun t58 =>
          gS t47 false (fun K => stK Try.prog (.binOp .eql 3 (.const t50) (.const t58) 3) 4 w.drew K) fun t59 =>
          gS t47 false (fun K => K t59) fun t60 =>
          gS t60 true (fun K => stK Try.prog (.fieldAddr 168 (.const t7) 4) 0 w.drew K) fun t61 =>
          gS t60 true (fun K => ld1 t61 w.drew fun v _ => K v) fun t62 =>
          gS t60 true (fun K => K t0) fun t63 =>
          gS t60 true (fun K => stK Try.prog (.nilCheck (.const t63)) 0 w.drew K) fun t64 =>
          gS t60 true (fun K => stK Try.prog (.fieldAddr 102 (.const t64) 3) 0 w.drew K) fun t65 =>
          gS t60 true (fun K => ld1 t65 w.drew fun v _ => K v) fun t66 =>
          gS t60 true (fun K => K t5) fun t67 =>
          gS t60 true (fun K => stK Try.prog (.indexAddr 100 (.const t66) (.const t67)) 0 w.drew K) fun t68 =>
          gS t60 true (fun K => stK Try.prog (.fieldAddr 168 (.const t68) 4) 0 w.drew K) fun t69 =>
          gS t60 true (fun K => ld1 t69 w.drew fun v _ => K v) fun t70 =>
          gS t60 true (fun K => stK Try.prog (.binOp .lss 3 (.const t62) (.const t70) 3) 4 w.drew K) fun t71 =>
          gS t47 false (fun K => stK Try.prog (.pick (.const t60) (.const t71) (.const (.bool false))) 4 w.drew K) fun t72 =>
          stK Try.prog (.pick (.const t47) (.const (.bool true)) (.const t72)) 4 w.drew fun t73 =>
          boolK t73
            (M2 t6 w.drew)
            (M2 t5 w.drew)))
        (fun (t5_1 : Value) (w : World) =>
        opK Try.prog (.binOp .add 3 (.const t6) (.const (.int .i64 1)) 3) 3 w fun t16 w =>
        N1 t5_1 t16 w))
      (R (.returned t5) w)) : Value → Value → World → Prop) (.int .i64 (-1)) (.int .i64 0) w
def an99 : Ann := (.seq none .no (.seq none .no (.seq none (.seq none .no (.one (.loop [5, 6] (.seq none (.seq none .no (.two .no .no)) (.seq (some [5]) (.one (.seq none .no (.seq none (.seq none .no (.two .no .no)) (.seq none (.draw 41) (.two .no .no))))) .no))))) (.seq none .no .no))))
theorem vw99 (R : Ending → World → Prop) (t0 t1 : Value) (w : World) : W Try.prog Try.f99.ntmps (bodyOf Try.f99) an99 ⟨retK Try.prog Try.f99.results.toList fun v w => R (.returned v) w, retK Try.prog Try.f99.results.toList fun v w => R (.returned v) w, []⟩ (args0 0 [t0, t1]) w = vc99 R t0 t1 w := by kernel_rfl
theorem vk99 {R : Ending → World → Prop} {t0 t1 : Value} {w : World} (h : vc99 R t0 t1 w) : Calls Try.prog 99 #[t0, t1] w R :=
  calls_of_W mixed (fn := Try.f99) (c := bodyOf Try.f99) (by kernel_rfl) (by kernel_rfl) an99 (args := [t0, t1]) (by kernel_rfl) (by rw [vw99]; exact h)

/-- slices.Collect[int] -/
def vc100 (R : Ending → World → Prop) (t0 : Value) (w : World) : Prop :=
  callK Try.prog 128 #[(.slice none 0 0), t0] w fun t4 w =>
  R (.returned t4) w
def an100 : Ann := (.seq none .no (.seq none .no .no))
theorem vw100 (R : Ending → World → Prop) (t0 : Value) (w : World) : W Try.prog Try.f100.ntmps (bodyOf Try.f100) an100 ⟨retK Try.prog Try.f100.results.toList fun v w => R (.returned v) w, retK Try.prog Try.f100.results.toList fun v w => R (.returned v) w, []⟩ (args0 0 [t0]) w = vc100 R t0 w := by kernel_rfl
theorem vk100 {R : Ending → World → Prop} {t0 : Value} {w : World} (h : vc100 R t0 w) : Calls Try.prog 100 #[t0] w R :=
  calls_of_W mixed (fn := Try.f100) (c := bodyOf Try.f100) (by kernel_rfl) (by kernel_rfl) an100 (args := [t0]) (by kernel_rfl) (by rw [vw100]; exact h)

/-- (*vault/fifo.Line[int]).All -/
def vc101 (R : Ending → World → Prop) (t0 : Value) (w : World) : Prop :=
  opK Try.prog (.box 122 (.const t0)) 0 w fun t1 w =>
  opK Try.prog (.makeFunc (.func 129) #[] #[(.const t1)]) 172 w fun t3 w =>
  R (.returned t3) w
def an101 : Ann := (.seq none .no (.seq none .no .no))
theorem vw101 (R : Ending → World → Prop) (t0 : Value) (w : World) : W Try.prog Try.f101.ntmps (bodyOf Try.f101) an101 ⟨retK Try.prog Try.f101.results.toList fun v w => R (.returned v) w, retK Try.prog Try.f101.results.toList fun v w => R (.returned v) w, []⟩ (args0 0 [t0]) w = vc101 R t0 w := by kernel_rfl
theorem vk101 {R : Ending → World → Prop} {t0 : Value} {w : World} (h : vc101 R t0 w) : Calls Try.prog 101 #[t0] w R :=
  calls_of_W mixed (fn := Try.f101) (c := bodyOf Try.f101) (by kernel_rfl) (by kernel_rfl) an101 (args := [t0]) (by kernel_rfl) (by rw [vw101]; exact h)

/-- (*vault/fifo.Line[int]).Drop -/
def vc126 (R : Ending → World → Prop) (t0 t1 : Value) (w : World) : Prop :=
  opK Try.prog (.nilCheck (.const t0)) 0 w fun t6 w =>
  opK Try.prog (.fieldAddr 94 (.const t6) 0) 0 w fun t7 w =>
  ld1 t7 w fun t8 w =>
  callK Try.prog 136 #[t8, t1] w fun t10 w =>
  opK Try.prog (.nilCheck (.const t0)) 0 w fun t11 w =>
  opK Try.prog (.fieldAddr 94 (.const t11) 0) 0 w fun t12 w =>
  st1 t12 t10 w fun _ w =>
  R (.returned (.tuple #[])) w
def an126 : Ann := .no
theorem vw126 (R : Ending → World → Prop) (t0 t1 : Value) (w : World) : W Try.prog Try.f126.ntmps (bodyOf Try.f126) an126 ⟨retK Try.prog Try.f126.results.toList fun v w => R (.returned v) w, retK Try.prog Try.f126.results.toList fun v w => R (.returned v) w, []⟩ (args0 0 [t0, t1]) w = vc126 R t0 t1 w := by kernel_rfl
theorem vk126 {R : Ending → World → Prop} {t0 t1 : Value} {w : World} (h : vc126 R t0 t1 w) : Calls Try.prog 126 #[t0, t1] w R :=
  calls_of_W mixed (fn := Try.f126) (c := bodyOf Try.f126) (by kernel_rfl) (by kernel_rfl) an126 (args := [t0, t1]) (by kernel_rfl) (by rw [vw126]; exact h)

/-- (*vault/sched.Sched).leave$1 -/
def vc127 (R : Ending → World → Prop) (t0 t1 : Value) (w : World) : Prop :=
  ld1 t1 w fun t5 w =>
  opK Try.prog (.binOp .eql 3 (.const t0) (.const t5) 3) 4 w fun t6 w =>
  R (.returned t6) w
def an127 : Ann := (.seq none .no (.seq none .no .no))
theorem vw127 (R : Ending → World → Prop) (t0 t1 : Value) (w : World) : W Try.prog Try.f127.ntmps (bodyOf Try.f127) an127 ⟨retK Try.prog Try.f127.results.toList fun v w => R (.returned v) w, retK Try.prog Try.f127.results.toList fun v w => R (.returned v) w, []⟩ (args0 0 [t0, t1]) w = vc127 R t0 t1 w := by kernel_rfl
theorem vk127 {R : Ending → World → Prop} {t0 t1 : Value} {w : World} (h : vc127 R t0 t1 w) : Calls Try.prog 127 #[t0, t1] w R :=
  calls_of_W mixed (fn := Try.f127) (c := bodyOf Try.f127) (by kernel_rfl) (by kernel_rfl) an127 (args := [t0, t1]) (by kernel_rfl) (by rw [vw127]; exact h)

/-- (*vault/fifo.Line[int]).All$1 -/
def vc129 (R : Ending → World → Prop) (t0 t1 : Value) (w : World) : Prop :=
  ld1 t1 w fun t5 w =>
  opK Try.prog (.nilCheck (.const t5)) 0 w fun t6 w =>
  opK Try.prog (.fieldAddr 94 (.const t6) 0) 0 w fun t7 w =>
  ld1 t7 w fun t8 w =>
  opK Try.prog (.call ⟨(.builtin .len), #[(.const t8)], #[69]⟩) 3 w fun t9 w =>
  (loopK 1 (fun (N1 : Value → World → Prop) (t10 : Value) (w : World) =>
    opK Try.prog (.binOp .lss 3 (.const t10) (.const t9) 3) 0 w fun t11 w =>
    boolK t11
      (opK Try.prog (.indexAddr 69 (.const t8) (.const t10)) 0 w fun t12 w =>
      ld1 t12 w fun t13 w =>
      opK Try.prog (.call ⟨(.value (.const t0)), #[(.const t13)], #[3]⟩) 4 w fun t16 w =>
      opK Try.prog (.unOp .not 4 (.const t16)) 4 w fun t17 w =>
      boolK t17
        (R (.returned (.tuple #[])) w)
        (opK Try.prog (.binOp .add 3 (.const t10) (.const (.int .i64 1)) 3) 3 w fun t18 w =>
        N1 t18 w))
      (R (.returned (.tuple #[])) w)) : Value → World → Prop) (.int .i64 0) w
def an129 : Ann := (.seq none .no (.one (.loop [10] (.seq none .no (.seq none (.two .no .no) (.seq none (.one (.seq none .no (.seq none .no (.two .no .no)))) .no))))))
theorem vw129 (R : Ending → World → Prop) (t0 t1 : Value) (w : World) : W Try.prog Try.f129.ntmps (bodyOf Try.f129) an129 ⟨retK Try.prog Try.f129.results.toList fun v w => R (.returned v) w, retK Try.prog Try.f129.results.toList fun v w => R (.returned v) w, []⟩ (args0 0 [t0, t1]) w = vc129 R t0 t1 w := by kernel_rfl
theorem vk129 {R : Ending → World → Prop} {t0 t1 : Value} {w : World} (h : vc129 R t0 t1 w) : Calls Try.prog 129 #[t0, t1] w R :=
  calls_of_W mixed (fn := Try.f129) (c := bodyOf Try.f129) (by kernel_rfl) (by kernel_rfl) an129 (args := [t0, t1]) (by kernel_rfl) (by rw [vw129]; exact h)

end Go.Proofs.Ytaniphdbebdhhaa
