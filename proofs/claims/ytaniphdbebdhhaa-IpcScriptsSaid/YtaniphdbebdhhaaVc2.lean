/-
  The conditions that some functions come to, written by a program of this session's (vc.py) off the loaded dump; the kernel holds each against W. No condition.
-/
import Derived.Test.YtaniphdbebdhhaaProg
import Derived.Test.YtaniphdbebdhhaaVkW
import Derived.Test.YtaniphdbebdhhaaVc0
namespace Go.Proofs.Ytaniphdbebdhhaa
open Go.Vk
set_option maxRecDepth 100000
set_option linter.unusedVariables false

/-- vault/vaultlaw.IpcScripts -/
def vc5 (R : Ending → World → Prop) (t0 : Value) (w : World) : Prop :=
  callK Try.prog 18 #[] w fun t18 w =>
  opK Try.prog (.build 59 #[]) 59 w fun t19 w =>
  opK Try.prog (.box 59 (.const t19)) 55 w fun t20 w =>
  callK Try.prog 18 #[] w fun t21 w =>
  opK Try.prog (.binOp .eql 53 (.const t18) (.const (.pointer none)) 53) 4 w fun t23 w =>
  gK t23 false w (fun K => K t21 w) fun t25 w =>
  gK t23 false w (fun K => opK Try.prog (.binOp .eql 53 (.const t25) (.const (.pointer none)) 53) 4 w K) fun t26 w =>
  opK Try.prog (.pick (.const t23) (.const (.bool true)) (.const t26)) 4 w fun t27 w =>
  boolK t27
    (R (.returned (.bool false)) w)
    (callK Try.prog 19 #[t21, (.int .i64 1), (.bool true)] w fun t29 w =>
    callK Try.prog 20 #[t21, (.int .i64 1), (.int .u32 6)] w fun t31 w =>
    opK Try.prog (.build 47 #[]) 47 w fun t32 w =>
    opK Try.prog (.box 47 (.const t32)) 39 w fun t33 w =>
    (loopK 1 (fun (N1 : Value → World → Prop) (t7 : Value) (w : World) =>
      opK Try.prog (.call ⟨(.builtin .len), #[(.const t0)], #[25]⟩) 3 w fun t36 w =>
      opK Try.prog (.binOp .lss 3 (.const t7) (.const t36) 3) 4 w fun t37 w =>
      gK t37 true w (fun K => K t7 w) fun t39 w =>
      gK t37 true w (fun K => opK Try.prog (.binOp .lss 3 (.const t39) (.const (.int .i64 262144)) 3) 4 w K) fun t40 w =>
      opK Try.prog (.pick (.const t37) (.const t40) (.const (.bool false))) 4 w fun t41 w =>
      boolK t41
        (opK Try.prog (.indexAddr 25 (.const t0) (.const t7)) 0 w fun t49 w =>
        ldn 6 t49 w fun t50 w =>
        callK Try.prog 21 #[t18, t20, t33, t50] w fun t51 w =>
        opK Try.prog (.unOp .not 4 (.const t51)) 4 w fun t53 w =>
        boolK t53
          (R (.returned (.bool false)) w)
          (opK Try.prog (.binOp .add 3 (.const t7) (.const (.int .i64 1)) 3) 3 w fun t43 w =>
          N1 t43 w))
        ((loopK 1 (fun (N2 : Value → World → Prop) (t9 : Value) (w : World) =>
          opK Try.prog (.binOp .lss 3 (.const t9) (.const (.int .i64 6)) 3) 4 w fun t55 w =>
          boolK t55
            (opK Try.prog (.binOp .add 3 (.const t9) (.const (.int .i64 1)) 3) 3 w fun t62 w =>
            opK Try.prog (.build 50 #[(0, (.const (.int .i64 8))), (1, (.const t62))]) 50 w fun t63 w =>
            callK Try.prog 21 #[t18, t20, t33, t63] w fun t64 w =>
            opK Try.prog (.binOp .add 3 (.const t9) (.const (.int .i64 1)) 3) 3 w fun t69 w =>
            opK Try.prog (.build 50 #[(0, (.const (.int .i64 10))), (1, (.const t69))]) 50 w fun t70 w =>
            callK Try.prog 21 #[t18, t20, t33, t70] w fun t71 w =>
            opK Try.prog (.unOp .not 4 (.const t64)) 4 w fun t73 w =>
            gK t73 false w (fun K => K t71 w) fun t75 w =>
            gK t73 false w (fun K => opK Try.prog (.unOp .not 4 (.const t75)) 4 w K) fun t76 w =>
            opK Try.prog (.pick (.const t73) (.const (.bool true)) (.const t76)) 4 w fun t77 w =>
            boolK t77
              (R (.returned (.bool false)) w)
              (opK Try.prog (.binOp .add 3 (.const t9) (.const (.int .i64 1)) 3) 3 w fun t57 w =>
              N2 t57 w))
            (callK Try.prog 19 #[t18, (.int .i64 777), (.bool false)] w fun t79 w =>
            callK Try.prog 22 #[t18, (.int .i64 777)] w fun t82 w =>
            opK Try.prog (.extract (.const t82) 0) 69 w fun t83 w =>
            opK Try.prog (.extract (.const t82) 1) 28 w fun t84 w =>
            callK Try.prog 16 #[t33] w fun t86 w =>
            callK Try.prog 23 #[t21, (.int .i64 1)] w fun t89 w =>
            opK Try.prog (.extract (.const t89) 0) 61 w fun t90 w =>
            opK Try.prog (.extract (.const t89) 1) 28 w fun t91 w =>
            gK t86 true w (fun K => K t79 w) fun t94 w =>
            gK t86 true w (fun K => opK Try.prog (.binOp .eql 28 (.const t94) (.const (.int .i64 0)) 28) 4 w K) fun t95 w =>
            opK Try.prog (.pick (.const t86) (.const t95) (.const (.bool false))) 4 w fun t96 w =>
            gK t96 true w (fun K => K t84 w) fun t98 w =>
            gK t96 true w (fun K => opK Try.prog (.binOp .eql 28 (.const t98) (.const (.int .i64 0)) 28) 4 w K) fun t99 w =>
            opK Try.prog (.pick (.const t96) (.const t99) (.const (.bool false))) 4 w fun t100 w =>
            gK t100 true w (fun K => K t83 w) fun t102 w =>
            gK t100 true w (fun K => opK Try.prog (.call ⟨(.builtin .len), #[(.const t102)], #[69]⟩) 3 w K) fun t103 w =>
            gK t100 true w (fun K => opK Try.prog (.binOp .eql 3 (.const t103) (.const (.int .i64 0)) 3) 4 w K) fun t104 w =>
            opK Try.prog (.pick (.const t100) (.const t104) (.const (.bool false))) 4 w fun t105 w =>
            gK t105 true w (fun K => K t90 w) fun t107 w =>
            gK t105 true w (fun K => opK Try.prog (.binOp .eql 61 (.const t107) (.const (.int .u32 6)) 61) 4 w K) fun t108 w =>
            opK Try.prog (.pick (.const t105) (.const t108) (.const (.bool false))) 4 w fun t109 w =>
            gK t109 true w (fun K => K t91 w) fun t111 w =>
            gK t109 true w (fun K => opK Try.prog (.binOp .eql 28 (.const t111) (.const (.int .i64 0)) 28) 4 w K) fun t112 w =>
            opK Try.prog (.pick (.const t109) (.const t112) (.const (.bool false))) 4 w fun t113 w =>
            R (.returned t113) w)) : Value → World → Prop) (.int .i64 0) w)) : Value → World → Prop) (.int .i64 0) w)
def an5 : Ann := (.cut [0] .no (.cut [0, 3] .no (.cut [0, 3, 4] .no (.cut [0, 3, 4, 5] .no (.cut [0, 3, 4, 5] (.cut [0, 3, 4, 5, 27] .no (.two (.cut [2] .no .no) .no)) (.cut [0, 3, 4, 5] .no (.cut [0, 3, 4, 5] .no (.cut [0, 3, 4, 5, 6] .no (.cut [3, 4, 5, 6] (.cut [0, 3, 4, 5, 6, 7] .no (.one (.loop [7] (.cut [0, 3, 4, 5, 6, 7] (.cut [0, 3, 4, 5, 6, 7, 41] .no (.two .no .no)) (.cut [0, 3, 4, 5, 6, 7] (.one (.cut [0, 3, 4, 5, 6, 7, 8] .no (.cut [0, 3, 4, 5, 6, 7, 53] .no (.two (.cut [2] .no .no) .no)))) .no))))) (.cut [3, 5, 6] (.cut [3, 4, 5, 6, 9] .no (.one (.loop [9] (.cut [3, 4, 5, 6, 9] (.cut [3, 4, 5, 6, 9, 55] .no (.two .no .no)) (.cut [3, 4, 5, 6, 9] (.one (.cut [3, 4, 5, 6, 9, 10] .no (.cut [3, 4, 5, 6, 9, 10, 11] .no (.cut [3, 4, 5, 6, 9, 77] .no (.two (.cut [2] .no .no) .no))))) .no))))) (.cut [3, 5, 6, 12] .no (.cut [5, 6, 12, 13, 14] .no (.cut [5, 12, 13, 14, 15] .no (.cut [12, 13, 14, 15, 16, 17] .no (.cut [2] .no .no)))))))))))))))
theorem vw5 (R : Ending → World → Prop) (t0 : Value) (w : World) : W Try.prog Try.f5.ntmps (bodyOf Try.f5) an5 ⟨retK Try.prog Try.f5.results.toList fun v w => R (.returned v) w, retK Try.prog Try.f5.results.toList fun v w => R (.returned v) w, []⟩ (args0 0 [t0]) w = vc5 R t0 w := by kernel_rfl
theorem vk5 {R : Ending → World → Prop} {t0 : Value} {w : World} (h : vc5 R t0 w) : Calls Try.prog 5 #[t0] w R :=
  calls_of_W mixed (fn := Try.f5) (c := bodyOf Try.f5) (by kernel_rfl) (by kernel_rfl) an5 (args := [t0]) (by kernel_rfl) (by rw [vw5]; exact h)

/-- vault/ipc.New -/
def vc18 (R : Ending → World → Prop) (w : World) : Prop :=
  opK Try.prog (.makeMap 123 none) 123 w fun t1 w =>
  opK Try.prog (.makeMap 124 none) 124 w fun t2 w =>
  opK Try.prog (.build 126 #[(0, (.const t1)), (1, (.const t2))]) 126 w fun t3 w =>
  opK Try.prog (.box 126 (.const t3)) 53 w fun t4 w =>
  R (.returned t4) w
def an18 : Ann := (.seq none .no (.seq none .no .no))
theorem vw18 (R : Ending → World → Prop) (w : World) : W Try.prog Try.f18.ntmps (bodyOf Try.f18) an18 ⟨retK Try.prog Try.f18.results.toList fun v w => R (.returned v) w, retK Try.prog Try.f18.results.toList fun v w => R (.returned v) w, []⟩ (args0 0 []) w = vc18 R  w := by kernel_rfl
theorem vk18 {R : Ending → World → Prop} {w : World} (h : vc18 R  w) : Calls Try.prog 18 #[] w R :=
  calls_of_W mixed (fn := Try.f18) (c := bodyOf Try.f18) (by kernel_rfl) (by kernel_rfl) an18 (args := []) (by kernel_rfl) (by rw [vw18]; exact h)

/-- (*vault/ipc.Bus).Open -/
def vc19 (R : Ending → World → Prop) (t0 t1 t2 : Value) (w : World) : Prop :=
  opK Try.prog (.binOp .lss 3 (.const t1) (.const (.int .i64 0)) 3) 4 w fun t8 w =>
  boolK t8
    (R (.returned (.int .i64 1)) w)
    (opK Try.prog (.nilCheck (.const t0)) 0 w fun t10 w =>
    opK Try.prog (.fieldAddr 126 (.const t10) 0) 0 w fun t11 w =>
    ld1 t11 w fun t12 w =>
    opK Try.prog (.lookup 123 (.const t12) (.const t1) false) 127 w fun t14 w =>
    opK Try.prog (.binOp .neq 127 (.const t14) (.const (.pointer none)) 127) 4 w fun t15 w =>
    boolK t15
      (R (.returned (.int .i64 7)) w)
      (opK Try.prog (.nilCheck (.const t0)) 0 w fun t17 w =>
      opK Try.prog (.fieldAddr 126 (.const t17) 0) 0 w fun t18 w =>
      ld1 t18 w fun t19 w =>
      opK Try.prog (.build 132 #[(0, (.const t2))]) 132 w fun t22 w =>
      opK Try.prog (.box 132 (.const t22)) 127 w fun t23 w =>
      opK Try.prog (.mapUpdate 123 (.const t19) (.const t1) (.const t23)) 0 w fun _ w =>
      R (.returned (.int .i64 0)) w))
def an19 : Ann := (.seq none .no (.seq none (.seq none .no (.two (.seq none .no .no) .no)) (.seq none (.seq none .no (.two (.seq none .no .no) .no)) (.seq none .no (.seq none .no .no)))))
theorem vw19 (R : Ending → World → Prop) (t0 t1 t2 : Value) (w : World) : W Try.prog Try.f19.ntmps (bodyOf Try.f19) an19 ⟨retK Try.prog Try.f19.results.toList fun v w => R (.returned v) w, retK Try.prog Try.f19.results.toList fun v w => R (.returned v) w, []⟩ (args0 0 [t0, t1, t2]) w = vc19 R t0 t1 t2 w := by kernel_rfl
theorem vk19 {R : Ending → World → Prop} {t0 t1 t2 : Value} {w : World} (h : vc19 R t0 t1 t2 w) : Calls Try.prog 19 #[t0, t1, t2] w R :=
  calls_of_W mixed (fn := Try.f19) (c := bodyOf Try.f19) (by kernel_rfl) (by kernel_rfl) an19 (args := [t0, t1, t2]) (by kernel_rfl) (by rw [vw19]; exact h)

/-- (*vault/ipc.Bus).Ring -/
def vc20 (R : Ending → World → Prop) (t0 t1 t2 : Value) (w : World) : Prop :=
  opK Try.prog (.alloc 66) 0 w fun t6 w =>
  opK Try.prog (.nilCheck (.const t0)) 0 w fun t9 w =>
  opK Try.prog (.fieldAddr 126 (.const t9) 0) 0 w fun t10 w =>
  ld1 t10 w fun t11 w =>
  opK Try.prog (.lookup 123 (.const t11) (.const t1) false) 127 w fun t13 w =>
  opK Try.prog (.binOp .eql 127 (.const t13) (.const (.pointer none)) 127) 4 w fun t16 w =>
  gK t16 false w (fun K => K t13 w) fun t18 w =>
  gK t16 false w (fun K => opK Try.prog (.nilCheck (.const t18)) 0 w K) fun t19 w =>
  gK t16 false w (fun K => opK Try.prog (.fieldAddr 132 (.const t19) 0) 0 w K) fun t20 w =>
  gK t16 false w (fun K => ld1 t20 w K) fun t21 w =>
  gK t16 false w (fun K => opK Try.prog (.unOp .not 4 (.const t21)) 4 w K) fun t22 w =>
  opK Try.prog (.pick (.const t16) (.const (.bool true)) (.const t22)) 4 w fun t23 w =>
  boolK t23
    (callK Try.prog 57 #[(.int .i64 6)] w fun t24 w =>
    stn 11 t6 t24 w fun _ w =>
    resK Try.prog [(t6, some 66)] w (fun v w => R (.returned v) w))
    (opK Try.prog (.nilCheck (.const t13)) 0 w fun t27 w =>
    opK Try.prog (.fieldAddr 132 (.const t27) 1) 0 w fun t28 w =>
    callK Try.prog 58 #[t28] w fun t29 w =>
    opK Try.prog (.binOp .gtr 3 (.const t29) (.const (.int .i64 0)) 3) 4 w fun t30 w =>
    boolK t30
      (callK Try.prog 59 #[t0, t13] w fun t33 w =>
      opK Try.prog (.field 135 (.const t33) 0) 3 w fun t34 w =>
      opK Try.prog (.build 64 #[(2, (.const t2))]) 64 w fun t36 w =>
      opK Try.prog (.build 66 #[(1, (.const t34)), (2, (.const t36))]) 66 w fun t37 w =>
      stn 11 t6 t37 w fun _ w =>
      resK Try.prog [(t6, some 66)] w (fun v w => R (.returned v) w))
      (opK Try.prog (.nilCheck (.const t13)) 0 w fun t39 w =>
      opK Try.prog (.fieldAddr 132 (.const t39) 2) 0 w fun t40 w =>
      ld1 t40 w fun t41 w =>
      opK Try.prog (.binOp .or 61 (.const t41) (.const t2) 61) 61 w fun t43 w =>
      opK Try.prog (.nilCheck (.const t13)) 0 w fun t44 w =>
      opK Try.prog (.fieldAddr 132 (.const t44) 2) 0 w fun t45 w =>
      st1 t45 t43 w fun _ w =>
      opK Try.prog (.build 66 #[(1, (.const (.int .i64 (-1))))]) 66 w fun t46 w =>
      stn 11 t6 t46 w fun _ w =>
      resK Try.prog [(t6, some 66)] w (fun v w => R (.returned v) w)))
def an20 : Ann := (.seq none .no (.seq none .no (.seq none (.one (.seq none .no (.two (.seq none .no .no) (.seq none .no (.two (.seq none .no .no) .no))))) (.seq none .no (.seq none .no .no)))))
theorem vw20 (R : Ending → World → Prop) (t0 t1 t2 : Value) (w : World) : W Try.prog Try.f20.ntmps (bodyOf Try.f20) an20 ⟨retK Try.prog Try.f20.results.toList fun v w => R (.returned v) w, retK Try.prog Try.f20.results.toList fun v w => R (.returned v) w, []⟩ (args0 0 [t0, t1, t2]) w = vc20 R t0 t1 t2 w := by kernel_rfl
theorem vk20 {R : Ending → World → Prop} {t0 t1 t2 : Value} {w : World} (h : vc20 R t0 t1 t2 w) : Calls Try.prog 20 #[t0, t1, t2] w R :=
  calls_of_W mixed (fn := Try.f20) (c := bodyOf Try.f20) (by kernel_rfl) (by kernel_rfl) an20 (args := [t0, t1, t2]) (by kernel_rfl) (by rw [vw20]; exact h)

/-- vault/vaultlaw.passes -/
def vc21 (R : Ending → World → Prop) (t0 t1 t2 t3 : Value) (w : World) : Prop :=
  opK Try.prog (.box 50 (.const t3)) 0 w fun t7 w =>
  opK Try.prog (.fieldAddr 50 (.const t7) 1) 0 w fun t31 w =>
  ld1 t31 w fun t32 w =>
  callK Try.prog 24 #[t32, (.int .i64 5)] w fun t33 w =>
  opK Try.prog (.fieldAddr 50 (.const t7) 2) 0 w fun t34 w =>
  ld1 t34 w fun t35 w =>
  callK Try.prog 44 #[t35, (.int .i64 6)] w fun t36 w =>
  opK Try.prog (.fieldAddr 50 (.const t7) 0) 0 w fun t37 w =>
  ld1 t37 w fun t38 w =>
  opK Try.prog (.binOp .eql 3 (.const t38) (.const (.int .i64 1)) 3) 4 w fun t40 w =>
  boolK t40
    (opK Try.prog (.fieldAddr 50 (.const t7) 2) 0 w fun t43 w =>
    ld1 t43 w fun t44 w =>
    opK Try.prog (.binOp .rem 3 (.const t44) (.const (.int .i64 2)) 3) 3 w fun t45 w =>
    opK Try.prog (.binOp .neq 3 (.const t45) (.const (.int .i64 0)) 3) 4 w fun t46 w =>
    callK Try.prog 19 #[t0, t33, t46] w fun t47 w =>
    opK Try.prog (.fieldAddr 50 (.const t7) 2) 0 w fun t50 w =>
    ld1 t50 w fun t51 w =>
    opK Try.prog (.binOp .rem 3 (.const t51) (.const (.int .i64 2)) 3) 3 w fun t52 w =>
    opK Try.prog (.binOp .neq 3 (.const t52) (.const (.int .i64 0)) 3) 4 w fun t53 w =>
    callK Try.prog 60 #[t1, t33, t53] w fun t54 w =>
    opK Try.prog (.binOp .eql 28 (.const t47) (.const t54) 28) 4 w fun t57 w =>
    R (.returned t57) w)
    (opK Try.prog (.binOp .eql 3 (.const t38) (.const (.int .i64 2)) 3) 4 w fun t59 w =>
    boolK t59
      (joinK 1 (fun (M1 : Value → World → Prop) =>
        stK Try.prog (.fieldAddr 50 (.const t7) 3) 0 w.drew fun t63 =>
        ld1 t63 w.drew fun t64 _ =>
        stcK Try.prog 24 #[t64, (.int .i64 9)] w.drew fun t65 =>
        stK Try.prog (.fieldAddr 50 (.const t7) 4) 0 w.drew fun t66 =>
        ld1 t66 w.drew fun t67 _ =>
        (callK Try.prog 62 #[t67] w.drew fun t68 w =>
        (callK Try.prog 61 #[t0, t33, t36, t65, t68] w fun t69 w =>
        opK Try.prog (.alloc 66) 0 w fun t13 w =>
        stn 11 t13 t69 w fun _ w =>
        M1 t13 w) ∧
        (opK Try.prog (.alloc 66) 0 w fun t13_1 w =>
        callK Try.prog 61 #[t0, t33, t36, t65, t68] w fun t69_1 w =>
        stn 11 t13_1 t69_1 w fun _ w =>
        M1 t13_1 w)) ∧
        (opK Try.prog (.alloc 66) 0 w.drew fun t13_2 w =>
        (ld1 t66 w fun v _ => v = t67) ∧
        (stK Try.prog (.fieldAddr 50 (.const t7) 4) 0 w fun v => v = t66) ∧
        (stcK Try.prog 24 #[t64, (.int .i64 9)] w fun v => v = t65) ∧
        (ld1 t63 w fun v _ => v = t64) ∧
        (stK Try.prog (.fieldAddr 50 (.const t7) 3) 0 w fun v => v = t63) ∧
        callK Try.prog 62 #[t67] w fun t68_1 w =>
        callK Try.prog 61 #[t0, t33, t36, t65, t68_1] w fun t69_2 w =>
        stn 11 t13_2 t69_2 w fun _ w =>
        M1 t13_2 w))
        (fun (t13_3 : Value) (w : World) =>
        joinK 1 (fun (M2 : Value → World → Prop) =>
          stK Try.prog (.fieldAddr 50 (.const t7) 3) 0 w.drew fun t73 =>
          ld1 t73 w.drew fun t74 _ =>
          stcK Try.prog 24 #[t74, (.int .i64 9)] w.drew fun t75 =>
          stK Try.prog (.fieldAddr 50 (.const t7) 4) 0 w.drew fun t76 =>
          ld1 t76 w.drew fun t77 _ =>
          (callK Try.prog 62 #[t77] w.drew fun t78 w =>
          (callK Try.prog 63 #[t1, t33, t36, t75, t78] w fun t79 w =>
          opK Try.prog (.alloc 66) 0 w fun t14 w =>
          stn 11 t14 t79 w fun _ w =>
          M2 t14 w) ∧
          (opK Try.prog (.alloc 66) 0 w fun t14_1 w =>
          callK Try.prog 63 #[t1, t33, t36, t75, t78] w fun t79_1 w =>
          stn 11 t14_1 t79_1 w fun _ w =>
          M2 t14_1 w)) ∧
          (opK Try.prog (.alloc 66) 0 w.drew fun t14_2 w =>
          (ld1 t76 w fun v _ => v = t77) ∧
          (stK Try.prog (.fieldAddr 50 (.const t7) 4) 0 w fun v => v = t76) ∧
          (stcK Try.prog 24 #[t74, (.int .i64 9)] w fun v => v = t75) ∧
          (ld1 t73 w fun v _ => v = t74) ∧
          (stK Try.prog (.fieldAddr 50 (.const t7) 3) 0 w fun v => v = t73) ∧
          callK Try.prog 62 #[t77] w fun t78_1 w =>
          callK Try.prog 63 #[t1, t33, t36, t75, t78_1] w fun t79_2 w =>
          stn 11 t14_2 t79_2 w fun _ w =>
          M2 t14_2 w))
          (fun (t14_3 : Value) (w : World) =>
          ldn 11 t13_3 w fun t80 w =>
          ldn 11 t14_3 w fun t81 w =>
          opK Try.prog (.binOp .eql 66 (.const t80) (.const t81) 66) 4 w fun t82 w =>
          R (.returned t82) w)))
      (opK Try.prog (.binOp .eql 3 (.const t38) (.const (.int .i64 3)) 3) 4 w fun t84 w =>
      boolK t84
        (opK Try.prog (.fieldAddr 50 (.const t7) 3) 0 w fun t88 w =>
        ld1 t88 w fun t89 w =>
        opK Try.prog (.binOp .rem 3 (.const t89) (.const (.int .i64 2)) 3) 3 w fun t90 w =>
        opK Try.prog (.binOp .neq 3 (.const t90) (.const (.int .i64 0)) 3) 4 w fun t91 w =>
        callK Try.prog 64 #[t0, t33, t36, t91] w fun t92 w =>
        opK Try.prog (.alloc 66) 0 w fun t15 w =>
        stn 11 t15 t92 w fun _ w =>
        opK Try.prog (.fieldAddr 50 (.const t7) 3) 0 w fun t96 w =>
        ld1 t96 w fun t97 w =>
        opK Try.prog (.binOp .rem 3 (.const t97) (.const (.int .i64 2)) 3) 3 w fun t98 w =>
        opK Try.prog (.binOp .neq 3 (.const t98) (.const (.int .i64 0)) 3) 4 w fun t99 w =>
        callK Try.prog 65 #[t1, t33, t36, t99] w fun t100 w =>
        opK Try.prog (.alloc 66) 0 w fun t16 w =>
        stn 11 t16 t100 w fun _ w =>
        ldn 11 t15 w fun t101 w =>
        ldn 11 t16 w fun t102 w =>
        opK Try.prog (.binOp .eql 66 (.const t101) (.const t102) 66) 4 w fun t103 w =>
        R (.returned t103) w)
        (opK Try.prog (.binOp .eql 3 (.const t38) (.const (.int .i64 4)) 3) 4 w fun t105 w =>
        boolK t105
          (opK Try.prog (.fieldAddr 50 (.const t7) 4) 0 w fun t108 w =>
          ld1 t108 w fun t109 w =>
          opK Try.prog (.convert 3 61 (.const t109)) 61 w fun t110 w =>
          callK Try.prog 20 #[t0, t33, t110] w fun t111 w =>
          opK Try.prog (.alloc 66) 0 w fun t17 w =>
          stn 11 t17 t111 w fun _ w =>
          opK Try.prog (.fieldAddr 50 (.const t7) 4) 0 w fun t114 w =>
          ld1 t114 w fun t115 w =>
          opK Try.prog (.convert 3 61 (.const t115)) 61 w fun t116 w =>
          callK Try.prog 66 #[t1, t33, t116] w fun t117 w =>
          opK Try.prog (.alloc 66) 0 w fun t18 w =>
          stn 11 t18 t117 w fun _ w =>
          ldn 11 t17 w fun t118 w =>
          ldn 11 t18 w fun t119 w =>
          opK Try.prog (.binOp .eql 66 (.const t118) (.const t119) 66) 4 w fun t120 w =>
          R (.returned t120) w)
          (opK Try.prog (.binOp .eql 3 (.const t38) (.const (.int .i64 5)) 3) 4 w fun t122 w =>
          boolK t122
            (opK Try.prog (.fieldAddr 50 (.const t7) 3) 0 w fun t126 w =>
            ld1 t126 w fun t127 w =>
            opK Try.prog (.binOp .rem 3 (.const t127) (.const (.int .i64 2)) 3) 3 w fun t128 w =>
            opK Try.prog (.binOp .neq 3 (.const t128) (.const (.int .i64 0)) 3) 4 w fun t129 w =>
            callK Try.prog 67 #[t0, t33, t36, t129] w fun t130 w =>
            opK Try.prog (.alloc 66) 0 w fun t19 w =>
            stn 11 t19 t130 w fun _ w =>
            opK Try.prog (.fieldAddr 50 (.const t7) 3) 0 w fun t134 w =>
            ld1 t134 w fun t135 w =>
            opK Try.prog (.binOp .rem 3 (.const t135) (.const (.int .i64 2)) 3) 3 w fun t136 w =>
            opK Try.prog (.binOp .neq 3 (.const t136) (.const (.int .i64 0)) 3) 4 w fun t137 w =>
            callK Try.prog 68 #[t1, t33, t36, t137] w fun t138 w =>
            opK Try.prog (.alloc 66) 0 w fun t20 w =>
            stn 11 t20 t138 w fun _ w =>
            ldn 11 t19 w fun t139 w =>
            ldn 11 t20 w fun t140 w =>
            opK Try.prog (.binOp .eql 66 (.const t139) (.const t140) 66) 4 w fun t141 w =>
            R (.returned t141) w)
            (opK Try.prog (.binOp .eql 3 (.const t38) (.const (.int .i64 6)) 3) 4 w fun t143 w =>
            boolK t143
              (callK Try.prog 69 #[t0, t36] w fun t146 w =>
              callK Try.prog 70 #[t1, t36] w fun t149 w =>
              opK Try.prog (.binOp .eql 28 (.const t146) (.const t149) 28) 4 w fun t152 w =>
              R (.returned t152) w)
              (joinK 1 (fun (M3 : Value → World → Prop) =>
                opK Try.prog (.binOp .eql 3 (.const t38) (.const (.int .i64 7)) 3) 4 w fun t154 w =>
                boolK t154
                  (M3 t154 w)
                  (opK Try.prog (.binOp .eql 3 (.const t38) (.const (.int .i64 8)) 3) 4 w fun t155 w =>
                  M3 t155 w))
                (fun (t153 : Value) (w : World) =>
                boolK t153
                  (opK Try.prog (.fieldAddr 50 (.const t7) 0) 0 w fun t159 w =>
                  ld1 t159 w fun t160 w =>
                  callK Try.prog 71 #[t0, t1, t2, t160, t33] w fun t162 w =>
                  R (.returned t162) w)
                  (opK Try.prog (.binOp .eql 3 (.const t38) (.const (.int .i64 9)) 3) 4 w fun t164 w =>
                  boolK t164
                    (callK Try.prog 72 #[t0, t36] w fun t168 w =>
                    opK Try.prog (.extract (.const t168) 0) 3 w fun t169 w =>
                    opK Try.prog (.extract (.const t168) 1) 3 w fun t170 w =>
                    callK Try.prog 73 #[t1, t36] w fun t174 w =>
                    opK Try.prog (.extract (.const t174) 0) 3 w fun t175 w =>
                    opK Try.prog (.extract (.const t174) 1) 3 w fun t176 w =>
                    opK Try.prog (.binOp .eql 3 (.const t169) (.const t175) 3) 4 w fun t179 w =>
                    gK t179 true w (fun K => K t170 w) fun t181 w =>
                    gK t179 true w (fun K => K t176 w) fun t182 w =>
                    gK t179 true w (fun K => opK Try.prog (.binOp .eql 3 (.const t181) (.const t182) 3) 4 w K) fun t183 w =>
                    opK Try.prog (.pick (.const t179) (.const t183) (.const (.bool false))) 4 w fun t184 w =>
                    R (.returned t184) w)
                    (opK Try.prog (.binOp .eql 3 (.const t38) (.const (.int .i64 10)) 3) 4 w fun t186 w =>
                    boolK t186
                      (callK Try.prog 23 #[t0, t33] w fun t190 w =>
                      opK Try.prog (.extract (.const t190) 0) 61 w fun t191 w =>
                      opK Try.prog (.extract (.const t190) 1) 28 w fun t192 w =>
                      callK Try.prog 74 #[t1, t33] w fun t196 w =>
                      opK Try.prog (.extract (.const t196) 0) 61 w fun t197 w =>
                      opK Try.prog (.extract (.const t196) 1) 28 w fun t198 w =>
                      opK Try.prog (.binOp .eql 61 (.const t191) (.const t197) 61) 4 w fun t201 w =>
                      gK t201 true w (fun K => K t192 w) fun t203 w =>
                      gK t201 true w (fun K => K t198 w) fun t204 w =>
                      gK t201 true w (fun K => opK Try.prog (.binOp .eql 28 (.const t203) (.const t204) 28) 4 w K) fun t205 w =>
                      opK Try.prog (.pick (.const t201) (.const t205) (.const (.bool false))) 4 w fun t206 w =>
                      R (.returned t206) w)
                      (R (.returned (.bool true)) w))))))))))
def an21 : Ann := (.cut [0, 1, 2, 7] .no (.cut [0, 1, 2, 7, 9] .no (.cut [0, 1, 2, 7, 9, 10] .no (.cut [] (.cut [0, 1, 2, 7, 9, 10, 38] .no (.one (.cut [0, 1, 2, 7, 9, 10, 38, 39] .no (.two (.cut [1, 7, 9, 11] .no (.cut [11, 12] .no (.cut [8] .no .no))) (.cut [0, 1, 2, 7, 9, 10, 38, 58] .no (.two (.cut [1, 7, 9, 10, 13] (.tree (some [13]) (.seg [0, 1, 2, 3, 4, 5, 6, 7] (.alt (.eff 8 [3, 4, 5, 6, 7] (.seg [] (.alt (.eff 9 [] (.seg [] (.eff 10 [] (.seg [] (.eff 11 [] (.seg [] .fin)))))) (.eff 10 [] (.seg [] (.eff 9 [] (.seg [] (.eff 11 [] (.seg [] .fin))))))))) (.eff 10 [] (.seg [] (.eff 8 [3, 4, 5, 6, 7] (.seg [] (.eff 9 [] (.seg [] (.eff 11 [] (.seg [] .fin))))))))))) (.cut [13, 14] (.tree (some [14]) (.seg [0, 1, 2, 3, 4, 5, 6, 7] (.alt (.eff 8 [3, 4, 5, 6, 7] (.seg [] (.alt (.eff 9 [] (.seg [] (.eff 10 [] (.seg [] (.eff 11 [] (.seg [] .fin)))))) (.eff 10 [] (.seg [] (.eff 9 [] (.seg [] (.eff 11 [] (.seg [] .fin))))))))) (.eff 10 [] (.seg [] (.eff 8 [3, 4, 5, 6, 7] (.seg [] (.eff 9 [] (.seg [] (.eff 11 [] (.seg [] .fin))))))))))) (.cut [8] .no .no))) (.cut [0, 1, 2, 7, 9, 10, 38, 83] .no (.two (.cut [1, 7, 9, 10, 15] .no (.cut [15, 16] .no (.cut [8] .no .no))) (.cut [0, 1, 2, 7, 9, 10, 38, 104] .no (.two (.cut [1, 7, 9, 17] .no (.cut [17, 18] .no (.cut [8] .no .no))) (.cut [0, 1, 2, 7, 9, 10, 38, 121] .no (.two (.cut [1, 7, 9, 10, 19] .no (.cut [19, 20] .no (.cut [8] .no .no))) (.cut [0, 1, 2, 7, 9, 10, 38, 142] .no (.two (.cut [1, 10, 21] .no (.cut [21, 22] .no (.cut [8] .no .no))) (.seq (some [153]) (.cut [0, 1, 2, 7, 9, 10, 38, 153] .no (.two .no .no)) (.two (.cut [8] .no .no) (.cut [0, 1, 9, 10, 38, 163] .no (.two (.cut [1, 10, 23, 24] .no (.cut [23, 24, 25, 26] .no (.cut [8] .no .no))) (.cut [0, 1, 9, 185] .no (.two (.cut [1, 9, 27, 28] .no (.cut [27, 28, 29, 30] .no (.cut [8] .no .no))) .no)))))))))))))))))))) (.cut [8] .no .no)))))
theorem vw21 (R : Ending → World → Prop) (t0 t1 t2 t3 : Value) (w : World) : W Try.prog Try.f21.ntmps (bodyOf Try.f21) an21 ⟨retK Try.prog Try.f21.results.toList fun v w => R (.returned v) w, retK Try.prog Try.f21.results.toList fun v w => R (.returned v) w, []⟩ (args0 0 [t0, t1, t2, t3]) w = vc21 R t0 t1 t2 t3 w := by kernel_rfl
theorem vk21 {R : Ending → World → Prop} {t0 t1 t2 t3 : Value} {w : World} (h : vc21 R t0 t1 t2 t3 w) : Calls Try.prog 21 #[t0, t1, t2, t3] w R :=
  calls_of_W mixed (fn := Try.f21) (c := bodyOf Try.f21) (by kernel_rfl) (by kernel_rfl) an21 (args := [t0, t1, t2, t3]) (by kernel_rfl) (by rw [vw21]; exact h)

/-- (*vault/ipc.Bus).Word -/
def vc23 (R : Ending → World → Prop) (t0 t1 : Value) (w : World) : Prop :=
  opK Try.prog (.nilCheck (.const t0)) 0 w fun t8 w =>
  opK Try.prog (.fieldAddr 126 (.const t8) 0) 0 w fun t9 w =>
  ld1 t9 w fun t10 w =>
  opK Try.prog (.lookup 123 (.const t10) (.const t1) false) 127 w fun t12 w =>
  opK Try.prog (.binOp .eql 127 (.const t12) (.const (.pointer none)) 127) 4 w fun t14 w =>
  gK t14 false w (fun K => K t12 w) fun t16 w =>
  gK t14 false w (fun K => opK Try.prog (.nilCheck (.const t16)) 0 w K) fun t17 w =>
  gK t14 false w (fun K => opK Try.prog (.fieldAddr 132 (.const t17) 0) 0 w K) fun t18 w =>
  gK t14 false w (fun K => ld1 t18 w K) fun t19 w =>
  gK t14 false w (fun K => opK Try.prog (.unOp .not 4 (.const t19)) 4 w K) fun t20 w =>
  opK Try.prog (.pick (.const t14) (.const (.bool true)) (.const t20)) 4 w fun t21 w =>
  boolK t21
    (R (.returned (.tuple #[(.int .u32 0), (.int .i64 6)])) w)
    (opK Try.prog (.nilCheck (.const t12)) 0 w fun t23 w =>
    opK Try.prog (.fieldAddr 132 (.const t23) 2) 0 w fun t24 w =>
    ld1 t24 w fun t25 w =>
    R (.returned (.tuple #[t25, (.int .i64 0)])) w)
def an23 : Ann := (.seq none .no (.seq none .no (.seq none (.seq none .no (.two (.seq none .no .no) .no)) (.seq none .no .no))))
theorem vw23 (R : Ending → World → Prop) (t0 t1 : Value) (w : World) : W Try.prog Try.f23.ntmps (bodyOf Try.f23) an23 ⟨retK Try.prog Try.f23.results.toList fun v w => R (.returned v) w, retK Try.prog Try.f23.results.toList fun v w => R (.returned v) w, []⟩ (args0 0 [t0, t1]) w = vc23 R t0 t1 w := by kernel_rfl
theorem vk23 {R : Ending → World → Prop} {t0 t1 : Value} {w : World} (h : vc23 R t0 t1 w) : Calls Try.prog 23 #[t0, t1] w R :=
  calls_of_W mixed (fn := Try.f23) (c := bodyOf Try.f23) (by kernel_rfl) (by kernel_rfl) an23 (args := [t0, t1]) (by kernel_rfl) (by rw [vw23]; exact h)

/-- vault/ipc.refused -/
def vc57 (R : Ending → World → Prop) (t0 : Value) (w : World) : Prop :=
  opK Try.prog (.alloc 66) 0 w fun t2 w =>
  opK Try.prog (.build 66 #[(0, (.const t0)), (1, (.const (.int .i64 (-1))))]) 66 w fun t4 w =>
  stn 11 t2 t4 w fun _ w =>
  resK Try.prog [(t2, some 66)] w (fun v w => R (.returned v) w)
def an57 : Ann := (.seq none .no (.seq none .no .no))
theorem vw57 (R : Ending → World → Prop) (t0 : Value) (w : World) : W Try.prog Try.f57.ntmps (bodyOf Try.f57) an57 ⟨retK Try.prog Try.f57.results.toList fun v w => R (.returned v) w, retK Try.prog Try.f57.results.toList fun v w => R (.returned v) w, []⟩ (args0 0 [t0]) w = vc57 R t0 w := by kernel_rfl
theorem vk57 {R : Ending → World → Prop} {t0 : Value} {w : World} (h : vc57 R t0 w) : Calls Try.prog 57 #[t0] w R :=
  calls_of_W mixed (fn := Try.f57) (c := bodyOf Try.f57) (by kernel_rfl) (by kernel_rfl) an57 (args := [t0]) (by kernel_rfl) (by rw [vw57]; exact h)

/-- (*vault/fifo.Line[vault/ipc.waiter]).Len -/
def vc58 (R : Ending → World → Prop) (t0 : Value) (w : World) : Prop :=
  opK Try.prog (.nilCheck (.const t0)) 0 w fun t4 w =>
  opK Try.prog (.fieldAddr 130 (.const t4) 0) 0 w fun t5 w =>
  ld1 t5 w fun t6 w =>
  opK Try.prog (.call ⟨(.builtin .len), #[(.const t6)], #[128]⟩) 3 w fun t7 w =>
  R (.returned t7) w
def an58 : Ann := (.seq none .no (.seq none .no .no))
theorem vw58 (R : Ending → World → Prop) (t0 : Value) (w : World) : W Try.prog Try.f58.ntmps (bodyOf Try.f58) an58 ⟨retK Try.prog Try.f58.results.toList fun v w => R (.returned v) w, retK Try.prog Try.f58.results.toList fun v w => R (.returned v) w, []⟩ (args0 0 [t0]) w = vc58 R t0 w := by kernel_rfl
theorem vk58 {R : Ending → World → Prop} {t0 : Value} {w : World} (h : vc58 R t0 w) : Calls Try.prog 58 #[t0] w R :=
  calls_of_W mixed (fn := Try.f58) (c := bodyOf Try.f58) (by kernel_rfl) (by kernel_rfl) an58 (args := [t0]) (by kernel_rfl) (by rw [vw58]; exact h)

/-- (*vault/ipc.Bus).first -/
def vc59 (R : Ending → World → Prop) (t0 t1 : Value) (w : World) : Prop :=
  opK Try.prog (.alloc 135) 0 w fun t4 w =>
  opK Try.prog (.nilCheck (.const t1)) 0 w fun t7 w =>
  opK Try.prog (.fieldAddr 132 (.const t7) 1) 0 w fun t8 w =>
  callK Try.prog 102 #[t8] w fun t9 w =>
  opK Try.prog (.alloc 135) 0 w fun t5 w =>
  stn 8 t5 t9 w fun _ w =>
  stK Try.prog (.nilCheck (.const t0)) 0 w.drew fun t11 =>
  stK Try.prog (.fieldAddr 126 (.const t11) 1) 0 w.drew fun t12 =>
  ld1 t12 w.drew fun t13 _ =>
  stK Try.prog (.fieldAddr 135 (.const t5) 0) 0 w.drew fun t14 =>
  ld1 t14 w.drew fun t15 _ =>
  opK Try.prog (.call ⟨(.builtin .delete), #[(.const t13), (.const t15)], #[124, 3]⟩) 0 w.drew fun _ w =>
  ldn 8 t5 w fun t16 w =>
  stn 8 t4 t16 w fun _ w =>
  resK Try.prog [(t4, some 135)] w (fun v w => R (.returned v) w)
def an59 : Ann := (.seq none .no (.seq none .no (.seq none (.draw 6) (.seq none .no .no))))
theorem vw59 (R : Ending → World → Prop) (t0 t1 : Value) (w : World) : W Try.prog Try.f59.ntmps (bodyOf Try.f59) an59 ⟨retK Try.prog Try.f59.results.toList fun v w => R (.returned v) w, retK Try.prog Try.f59.results.toList fun v w => R (.returned v) w, []⟩ (args0 0 [t0, t1]) w = vc59 R t0 t1 w := by kernel_rfl
theorem vk59 {R : Ending → World → Prop} {t0 t1 : Value} {w : World} (h : vc59 R t0 t1 w) : Calls Try.prog 59 #[t0, t1] w R :=
  calls_of_W mixed (fn := Try.f59) (c := bodyOf Try.f59) (by kernel_rfl) (by kernel_rfl) an59 (args := [t0, t1]) (by kernel_rfl) (by rw [vw59]; exact h)

/-- (*vault/vaultref.Bus).Open -/
def vc60 (R : Ending → World → Prop) (t0 t1 t2 : Value) (w : World) : Prop :=
  opK Try.prog (.binOp .lss 3 (.const t1) (.const (.int .i64 0)) 3) 4 w fun t9 w =>
  boolK t9
    (R (.returned (.int .i64 1)) w)
    (callK Try.prog 103 #[t0, t1] w fun t12 w =>
    opK Try.prog (.binOp .geq 3 (.const t12) (.const (.int .i64 0)) 3) 4 w fun t14 w =>
    boolK t14
      (R (.returned (.int .i64 7)) w)
      (opK Try.prog (.nilCheck (.const t0)) 0 w fun t17 w =>
      opK Try.prog (.fieldAddr 59 (.const t17) 0) 0 w fun t18 w =>
      ld1 t18 w fun t19 w =>
      opK Try.prog (.build 189 #[(0, (.const t1)), (1, (.const t2))]) 189 w fun t22 w =>
      opK Try.prog (.buildSlice 56 1 #[(0, (.const t22))]) 56 w fun t23 w =>
      opK Try.prog (.call ⟨(.builtin .append), #[(.const t19), (.const t23)], #[56, 56]⟩) 56 w fun t24 w =>
      opK Try.prog (.nilCheck (.const t0)) 0 w fun t25 w =>
      opK Try.prog (.fieldAddr 59 (.const t25) 0) 0 w fun t26 w =>
      st1 t26 t24 w fun _ w =>
      R (.returned (.int .i64 0)) w))
def an60 : Ann := (.seq none .no (.seq none (.seq none .no (.two (.seq none .no .no) .no)) (.seq none .no (.seq none (.seq none .no (.two (.seq none .no .no) .no)) (.seq none .no (.seq none .no .no))))))
theorem vw60 (R : Ending → World → Prop) (t0 t1 t2 : Value) (w : World) : W Try.prog Try.f60.ntmps (bodyOf Try.f60) an60 ⟨retK Try.prog Try.f60.results.toList fun v w => R (.returned v) w, retK Try.prog Try.f60.results.toList fun v w => R (.returned v) w, []⟩ (args0 0 [t0, t1, t2]) w = vc60 R t0 t1 t2 w := by kernel_rfl
theorem vk60 {R : Ending → World → Prop} {t0 t1 t2 : Value} {w : World} (h : vc60 R t0 t1 t2 w) : Calls Try.prog 60 #[t0, t1, t2] w R :=
  calls_of_W mixed (fn := Try.f60) (c := bodyOf Try.f60) (by kernel_rfl) (by kernel_rfl) an60 (args := [t0, t1, t2]) (by kernel_rfl) (by rw [vw60]; exact h)

/-- (*vault/ipc.Bus).Send -/
def vc61 (R : Ending → World → Prop) (t0 t1 t2 t3 t4 : Value) (w : World) : Prop :=
  opK Try.prog (.box 64 (.const t4)) 0 w fun t9 w =>
  opK Try.prog (.alloc 66) 0 w fun t10 w =>
  joinK 1 (fun (M1 : Value → World → Prop) =>
    opK Try.prog (.binOp .eql 3 (.const t3) (.const (.int .i64 1)) 3) 4 w fun t16 w =>
    boolK t16
      (M1 t16 w)
      (opK Try.prog (.binOp .eql 3 (.const t3) (.const (.int .i64 2)) 3) 4 w fun t17 w =>
      boolK t17
        (M1 t17 w)
        (opK Try.prog (.binOp .eql 3 (.const t3) (.const (.int .i64 3)) 3) 4 w fun t18 w =>
        boolK t18
          (M1 t18 w)
          (opK Try.prog (.binOp .eql 3 (.const t3) (.const (.int .i64 7)) 3) 4 w fun t19 w =>
          M1 t19 w))))
    (fun (t15 : Value) (w : World) =>
    boolK t15
      (callK Try.prog 104 #[t0, t1, (.bool false), t2] w fun t24 w =>
      opK Try.prog (.extract (.const t24) 0) 127 w fun t25 w =>
      opK Try.prog (.extract (.const t24) 1) 28 w fun t26 w =>
      opK Try.prog (.binOp .neq 28 (.const t26) (.const (.int .i64 0)) 28) 4 w fun t29 w =>
      boolK t29
        (callK Try.prog 57 #[t26] w fun t31 w =>
        stn 11 t10 t31 w fun _ w =>
        resK Try.prog [(t10, some 66)] w (fun v w => R (.returned v) w))
        (callK Try.prog 105 #[t25] w fun t34 w =>
        boolK t34
          (ldn 6 t9 w.drew fun t40 _ =>
          callK Try.prog 59 #[t0, t25] w.drew fun t37 w =>
          (ldn 6 t9 w fun v _ => v = t40) ∧
          stK Try.prog (.field 135 (.const t37) 0) 3 w fun t38 =>
          callK Try.prog 106 #[t38, t3, t40] w fun t41 w =>
          stn 11 t10 t41 w fun _ w =>
          resK Try.prog [(t10, some 66)] w (fun v w => R (.returned v) w))
          (opK Try.prog (.binOp .eql 3 (.const t3) (.const (.int .i64 1)) 3) 4 w fun t44 w =>
          boolK t44
            (callK Try.prog 57 #[(.int .i64 17)] w fun t45 w =>
            stn 11 t10 t45 w fun _ w =>
            resK Try.prog [(t10, some 66)] w (fun v w => R (.returned v) w))
            (ldn 6 t9 w fun t50 w =>
            opK Try.prog (.build 135 #[(0, (.const t2)), (1, (.const t3)), (2, (.const t50))]) 135 w fun t51 w =>
            callK Try.prog 107 #[t0, t1, t51] w fun t52 w =>
            stn 11 t10 t52 w fun _ w =>
            resK Try.prog [(t10, some 66)] w (fun v w => R (.returned v) w)))))
      (callK Try.prog 57 #[(.int .i64 1)] w fun t14 w =>
      stn 11 t10 t14 w fun _ w =>
      resK Try.prog [(t10, some 66)] w (fun v w => R (.returned v) w)))
def an61 : Ann := (.seq none .no (.seq none (.seq none .no (.one (.seq (some [15]) (.seq none .no (.two .no (.seq none .no (.two .no (.seq none .no (.two .no .no)))))) (.two .no (.seq none .no .no))))) (.seq none .no (.seq none (.one (.seq none .no (.two (.seq none .no .no) (.seq none .no (.two (.seq none (.tree none (.seg [0, 1, 4, 5] (.eff 2 [] (.seg [3] (.eff 6 [5, 3] (.seg [] (.eff 7 [] (.seg [] .fin)))))))) .no) (.seq none .no (.two (.seq none .no .no) .no))))))) (.seq none .no .no)))))
theorem vw61 (R : Ending → World → Prop) (t0 t1 t2 t3 t4 : Value) (w : World) : W Try.prog Try.f61.ntmps (bodyOf Try.f61) an61 ⟨retK Try.prog Try.f61.results.toList fun v w => R (.returned v) w, retK Try.prog Try.f61.results.toList fun v w => R (.returned v) w, []⟩ (args0 0 [t0, t1, t2, t3, t4]) w = vc61 R t0 t1 t2 t3 t4 w := by kernel_rfl
theorem vk61 {R : Ending → World → Prop} {t0 t1 t2 t3 t4 : Value} {w : World} (h : vc61 R t0 t1 t2 t3 t4 w) : Calls Try.prog 61 #[t0, t1, t2, t3, t4] w R :=
  calls_of_W mixed (fn := Try.f61) (c := bodyOf Try.f61) (by kernel_rfl) (by kernel_rfl) an61 (args := [t0, t1, t2, t3, t4]) (by kernel_rfl) (by rw [vw61]; exact h)

/-- vault/vaultlaw.messageOf -/
def vc62 (R : Ending → World → Prop) (t0 : Value) (w : World) : Prop :=
  opK Try.prog (.alloc 64) 0 w fun t2 w =>
  opK Try.prog (.convert 3 61 (.const t0)) 61 w fun t5 w =>
  opK Try.prog (.binOp .add 61 (.const t5) (.const (.int .u32 1)) 61) 61 w fun t8 w =>
  opK Try.prog (.binOp .mul 61 (.const t5) (.const (.int .u32 3)) 61) 61 w fun t10 w =>
  opK Try.prog (.binOp .xor 61 (.const t5) (.const (.int .u32 7)) 61) 61 w fun t12 w =>
  opK Try.prog (.binOp .shr 61 (.const t5) (.const (.int .u64 3)) 194) 61 w fun t14 w =>
  opK Try.prog (.build 62 #[(0, (.const t8)), (1, (.const t10)), (2, (.const t12)), (3, (.const t14))]) 62 w fun t15 w =>
  opK Try.prog (.binOp .rem 61 (.const t5) (.const (.int .u32 5)) 61) 61 w fun t17 w =>
  opK Try.prog (.build 64 #[(0, (.const t5)), (1, (.const t15)), (2, (.const t17))]) 64 w fun t18 w =>
  stn 6 t2 t18 w fun _ w =>
  resK Try.prog [(t2, some 64)] w (fun v w => R (.returned v) w)
def an62 : Ann := (.seq none .no (.seq none .no (.seq none .no .no)))
theorem vw62 (R : Ending → World → Prop) (t0 : Value) (w : World) : W Try.prog Try.f62.ntmps (bodyOf Try.f62) an62 ⟨retK Try.prog Try.f62.results.toList fun v w => R (.returned v) w, retK Try.prog Try.f62.results.toList fun v w => R (.returned v) w, []⟩ (args0 0 [t0]) w = vc62 R t0 w := by kernel_rfl
theorem vk62 {R : Ending → World → Prop} {t0 : Value} {w : World} (h : vc62 R t0 w) : Calls Try.prog 62 #[t0] w R :=
  calls_of_W mixed (fn := Try.f62) (c := bodyOf Try.f62) (by kernel_rfl) (by kernel_rfl) an62 (args := [t0]) (by kernel_rfl) (by rw [vw62]; exact h)

/-- (*vault/vaultref.Bus).Send -/
def vc63 (R : Ending → World → Prop) (t0 t1 t2 t3 t4 : Value) (w : World) : Prop :=
  opK Try.prog (.box 64 (.const t4)) 0 w fun t9 w =>
  opK Try.prog (.alloc 66) 0 w fun t10 w =>
  opK Try.prog (.binOp .neq 3 (.const t3) (.const (.int .i64 1)) 3) 4 w fun t15 w =>
  gK t15 true w (fun K => K t3 w) fun t17 w =>
  gK t15 true w (fun K => opK Try.prog (.binOp .neq 3 (.const t17) (.const (.int .i64 2)) 3) 4 w K) fun t18 w =>
  opK Try.prog (.pick (.const t15) (.const t18) (.const (.bool false))) 4 w fun t19 w =>
  gK t19 true w (fun K => K t3 w) fun t21 w =>
  gK t19 true w (fun K => opK Try.prog (.binOp .neq 3 (.const t21) (.const (.int .i64 3)) 3) 4 w K) fun t22 w =>
  opK Try.prog (.pick (.const t19) (.const t22) (.const (.bool false))) 4 w fun t23 w =>
  gK t23 true w (fun K => K t3 w) fun t25 w =>
  gK t23 true w (fun K => opK Try.prog (.binOp .neq 3 (.const t25) (.const (.int .i64 7)) 3) 4 w K) fun t26 w =>
  opK Try.prog (.pick (.const t23) (.const t26) (.const (.bool false))) 4 w fun t27 w =>
  boolK t27
    (callK Try.prog 108 #[(.int .i64 1)] w fun t28 w =>
    stn 11 t10 t28 w fun _ w =>
    resK Try.prog [(t10, some 66)] w (fun v w => R (.returned v) w))
    (callK Try.prog 109 #[t0, t1, (.bool false), t2] w fun t32 w =>
    opK Try.prog (.binOp .neq 28 (.const t32) (.const (.int .i64 0)) 28) 4 w fun t34 w =>
    boolK t34
      (callK Try.prog 108 #[t32] w fun t36 w =>
      stn 11 t10 t36 w fun _ w =>
      resK Try.prog [(t10, some 66)] w (fun v w => R (.returned v) w))
      (callK Try.prog 110 #[t0, t1] w fun t39 w =>
      opK Try.prog (.binOp .geq 3 (.const t39) (.const (.int .i64 0)) 3) 4 w fun t41 w =>
      gK t41 true w (fun K => K t0 w) fun t43 w =>
      gK t41 true w (fun K => opK Try.prog (.nilCheck (.const t43)) 0 w K) fun t44 w =>
      gK t41 true w (fun K => opK Try.prog (.fieldAddr 59 (.const t44) 1) 0 w K) fun t45 w =>
      gK t41 true w (fun K => ld1 t45 w K) fun t46 w =>
      gK t41 true w (fun K => K t39 w) fun t47 w =>
      gK t41 true w (fun K => opK Try.prog (.indexAddr 57 (.const t46) (.const t47)) 0 w K) fun t48 w =>
      gK t41 true w (fun K => opK Try.prog (.fieldAddr 197 (.const t48) 2) 0 w K) fun t49 w =>
      gK t41 true w (fun K => ld1 t49 w K) fun t50 w =>
      gK t41 true w (fun K => opK Try.prog (.binOp .eql 3 (.const t50) (.const (.int .i64 4)) 3) 4 w K) fun t51 w =>
      opK Try.prog (.pick (.const t41) (.const t51) (.const (.bool false))) 4 w fun t52 w =>
      boolK t52
        (callK Try.prog 111 #[t0, t39] w fun t55 w =>
        opK Try.prog (.alloc 197) 0 w fun t13 w =>
        stn 9 t13 t55 w fun _ w =>
        opK Try.prog (.fieldAddr 197 (.const t13) 1) 0 w fun t56 w =>
        ld1 t56 w fun t57 w =>
        ldn 6 t9 w fun t58 w =>
        opK Try.prog (.binOp .eql 3 (.const t3) (.const (.int .i64 3)) 3) 4 w fun t60 w =>
        gK t60 false w (fun K => K t3 w) fun t62 w =>
        gK t60 false w (fun K => opK Try.prog (.binOp .eql 3 (.const t62) (.const (.int .i64 7)) 3) 4 w K) fun t63 w =>
        opK Try.prog (.pick (.const t60) (.const (.bool true)) (.const t63)) 4 w fun t64 w =>
        opK Try.prog (.binOp .eql 3 (.const t3) (.const (.int .i64 7)) 3) 4 w fun t66 w =>
        opK Try.prog (.build 66 #[(1, (.const t57)), (2, (.const t58)), (4, (.const t64)), (5, (.const t66))]) 66 w fun t67 w =>
        stn 11 t10 t67 w fun _ w =>
        resK Try.prog [(t10, some 66)] w (fun v w => R (.returned v) w))
        (opK Try.prog (.binOp .eql 3 (.const t3) (.const (.int .i64 1)) 3) 4 w fun t69 w =>
        boolK t69
          (callK Try.prog 108 #[(.int .i64 17)] w fun t70 w =>
          stn 11 t10 t70 w fun _ w =>
          resK Try.prog [(t10, some 66)] w (fun v w => R (.returned v) w))
          (stK Try.prog (.nilCheck (.const t0)) 0 w.drew fun t73 =>
          stK Try.prog (.fieldAddr 59 (.const t73) 1) 0 w.drew fun t74 =>
          ld1 t74 w.drew fun t75 _ =>
          ldn 6 t9 w.drew fun t79 _ =>
          stK Try.prog (.build 197 #[(0, (.const t1)), (1, (.const t2)), (2, (.const t3)), (3, (.const t79))]) 197 w.drew fun t80 =>
          opK Try.prog (.buildSlice 57 1 #[(0, (.const t80))]) 57 w.drew fun t81 w =>
          (ld1 t74 w fun v _ => v = t75) ∧
          (stK Try.prog (.fieldAddr 59 (.const t73) 1) 0 w fun v => v = t74) ∧
          (stK Try.prog (.nilCheck (.const t0)) 0 w fun v => v = t73) ∧
          opK Try.prog (.call ⟨(.builtin .append), #[(.const t75), (.const t81)], #[57, 57]⟩) 57 w fun t82 w =>
          stK Try.prog (.nilCheck (.const t0)) 0 w fun t83 =>
          stK Try.prog (.fieldAddr 59 (.const t83) 1) 0 w fun t84 =>
          st1 t84 t82 w fun _ w =>
          opK Try.prog (.build 66 #[(1, (.const (.int .i64 (-1)))), (3, (.const (.bool true)))]) 66 w fun t85 w =>
          stn 11 t10 t85 w fun _ w =>
          resK Try.prog [(t10, some 66)] w (fun v w => R (.returned v) w)))))
def an63 : Ann := (.seq none .no (.seq none (.seq none .no (.two (.seq none .no .no) .no)) (.seq none .no (.seq none (.seq none .no (.two (.seq none .no .no) .no)) (.seq none .no (.seq none (.seq none .no (.two (.seq none .no (.seq none .no .no)) .no)) (.seq none (.seq none .no (.two (.seq none .no .no) .no)) (.seq none (.tree none (.seg [0, 1, 2, 3, 4, 5, 6, 7, 8, 9] (.eff 10 [8, 9] (.seg [] (.eff 11 [2, 3, 4] (.seg [12, 13] (.eff 14 [12, 13] (.seg [] .fin)))))))) (.seq none .no .no)))))))))
theorem vw63 (R : Ending → World → Prop) (t0 t1 t2 t3 t4 : Value) (w : World) : W Try.prog Try.f63.ntmps (bodyOf Try.f63) an63 ⟨retK Try.prog Try.f63.results.toList fun v w => R (.returned v) w, retK Try.prog Try.f63.results.toList fun v w => R (.returned v) w, []⟩ (args0 0 [t0, t1, t2, t3, t4]) w = vc63 R t0 t1 t2 t3 t4 w := by kernel_rfl
theorem vk63 {R : Ending → World → Prop} {t0 t1 t2 t3 t4 : Value} {w : World} (h : vc63 R t0 t1 t2 t3 t4 w) : Calls Try.prog 63 #[t0, t1, t2, t3, t4] w R :=
  calls_of_W mixed (fn := Try.f63) (c := bodyOf Try.f63) (by kernel_rfl) (by kernel_rfl) an63 (args := [t0, t1, t2, t3, t4]) (by kernel_rfl) (by rw [vw63]; exact h)

/-- (*vault/ipc.Bus).Get -/
def vc64 (R : Ending → World → Prop) (t0 t1 t2 t3 : Value) (w : World) : Prop :=
  opK Try.prog (.alloc 66) 0 w fun t8 w =>
  callK Try.prog 104 #[t0, t1, (.bool false), t2] w fun t16 w =>
  opK Try.prog (.extract (.const t16) 0) 127 w fun t17 w =>
  opK Try.prog (.extract (.const t16) 1) 28 w fun t18 w =>
  opK Try.prog (.binOp .neq 28 (.const t18) (.const (.int .i64 0)) 28) 4 w fun t21 w =>
  boolK t21
    (callK Try.prog 57 #[t18] w fun t23 w =>
    stn 11 t8 t23 w fun _ w =>
    resK Try.prog [(t8, some 66)] w (fun v w => R (.returned v) w))
    (opK Try.prog (.nilCheck (.const t17)) 0 w fun t26 w =>
    opK Try.prog (.fieldAddr 132 (.const t26) 1) 0 w fun t27 w =>
    callK Try.prog 58 #[t27] w fun t28 w =>
    opK Try.prog (.binOp .gtr 3 (.const t28) (.const (.int .i64 0)) 3) 4 w fun t29 w =>
    gK t29 true w (fun K => K t17 w) fun t31 w =>
    gK t29 true w (fun K => callK Try.prog 105 #[t31] w K) fun t32 w =>
    gK t29 true w (fun K => opK Try.prog (.unOp .not 4 (.const t32)) 4 w K) fun t33 w =>
    opK Try.prog (.pick (.const t29) (.const t33) (.const (.bool false))) 4 w fun t34 w =>
    boolK t34
      (callK Try.prog 59 #[t0, t17] w fun t37 w =>
      opK Try.prog (.alloc 135) 0 w fun t11 w =>
      stn 8 t11 t37 w fun _ w =>
      opK Try.prog (.fieldAddr 135 (.const t11) 0) 0 w fun t38 w =>
      ld1 t38 w fun t39 w =>
      opK Try.prog (.fieldAddr 135 (.const t11) 1) 0 w fun t40 w =>
      ld1 t40 w fun t41 w =>
      opK Try.prog (.fieldAddr 135 (.const t11) 2) 0 w fun t42 w =>
      ldn 6 t42 w fun t43 w =>
      callK Try.prog 106 #[t39, t41, t43] w fun t44 w =>
      stn 11 t8 t44 w fun _ w =>
      resK Try.prog [(t8, some 66)] w (fun v w => R (.returned v) w))
      (opK Try.prog (.unOp .not 4 (.const t3)) 4 w fun t47 w =>
      boolK t47
        (callK Try.prog 57 #[(.int .i64 17)] w fun t48 w =>
        stn 11 t8 t48 w fun _ w =>
        resK Try.prog [(t8, some 66)] w (fun v w => R (.returned v) w))
        (opK Try.prog (.build 135 #[(0, (.const t2)), (1, (.const (.int .i64 4)))]) 135 w fun t52 w =>
        callK Try.prog 107 #[t0, t1, t52] w fun t53 w =>
        stn 11 t8 t53 w fun _ w =>
        resK Try.prog [(t8, some 66)] w (fun v w => R (.returned v) w))))
def an64 : Ann := (.seq none .no (.seq none .no (.seq none (.one (.seq none .no (.two (.seq none .no .no) (.seq none .no (.two (.seq none .no (.seq none .no .no)) (.seq none .no (.two (.seq none .no .no) .no))))))) (.seq none .no .no))))
theorem vw64 (R : Ending → World → Prop) (t0 t1 t2 t3 : Value) (w : World) : W Try.prog Try.f64.ntmps (bodyOf Try.f64) an64 ⟨retK Try.prog Try.f64.results.toList fun v w => R (.returned v) w, retK Try.prog Try.f64.results.toList fun v w => R (.returned v) w, []⟩ (args0 0 [t0, t1, t2, t3]) w = vc64 R t0 t1 t2 t3 w := by kernel_rfl
theorem vk64 {R : Ending → World → Prop} {t0 t1 t2 t3 : Value} {w : World} (h : vc64 R t0 t1 t2 t3 w) : Calls Try.prog 64 #[t0, t1, t2, t3] w R :=
  calls_of_W mixed (fn := Try.f64) (c := bodyOf Try.f64) (by kernel_rfl) (by kernel_rfl) an64 (args := [t0, t1, t2, t3]) (by kernel_rfl) (by rw [vw64]; exact h)

/-- (*vault/vaultref.Bus).Get -/
def vc65 (R : Ending → World → Prop) (t0 t1 t2 t3 : Value) (w : World) : Prop :=
  opK Try.prog (.alloc 66) 0 w fun t8 w =>
  callK Try.prog 109 #[t0, t1, (.bool false), t2] w fun t15 w =>
  opK Try.prog (.binOp .neq 28 (.const t15) (.const (.int .i64 0)) 28) 4 w fun t17 w =>
  boolK t17
    (callK Try.prog 108 #[t15] w fun t19 w =>
    stn 11 t8 t19 w fun _ w =>
    resK Try.prog [(t8, some 66)] w (fun v w => R (.returned v) w))
    (callK Try.prog 110 #[t0, t1] w fun t22 w =>
    opK Try.prog (.binOp .geq 3 (.const t22) (.const (.int .i64 0)) 3) 4 w fun t24 w =>
    gK t24 true w (fun K => K t0 w) fun t26 w =>
    gK t24 true w (fun K => opK Try.prog (.nilCheck (.const t26)) 0 w K) fun t27 w =>
    gK t24 true w (fun K => opK Try.prog (.fieldAddr 59 (.const t27) 1) 0 w K) fun t28 w =>
    gK t24 true w (fun K => ld1 t28 w K) fun t29 w =>
    gK t24 true w (fun K => K t22 w) fun t30 w =>
    gK t24 true w (fun K => opK Try.prog (.indexAddr 57 (.const t29) (.const t30)) 0 w K) fun t31 w =>
    gK t24 true w (fun K => opK Try.prog (.fieldAddr 197 (.const t31) 2) 0 w K) fun t32 w =>
    gK t24 true w (fun K => ld1 t32 w K) fun t33 w =>
    gK t24 true w (fun K => opK Try.prog (.binOp .neq 3 (.const t33) (.const (.int .i64 4)) 3) 4 w K) fun t34 w =>
    opK Try.prog (.pick (.const t24) (.const t34) (.const (.bool false))) 4 w fun t35 w =>
    boolK t35
      (callK Try.prog 111 #[t0, t22] w fun t38 w =>
      opK Try.prog (.alloc 197) 0 w fun t11 w =>
      stn 9 t11 t38 w fun _ w =>
      opK Try.prog (.fieldAddr 197 (.const t11) 1) 0 w fun t39 w =>
      ld1 t39 w fun t40 w =>
      opK Try.prog (.fieldAddr 197 (.const t11) 3) 0 w fun t41 w =>
      ldn 6 t41 w fun t42 w =>
      opK Try.prog (.fieldAddr 197 (.const t11) 2) 0 w fun t43 w =>
      ld1 t43 w fun t44 w =>
      opK Try.prog (.binOp .eql 3 (.const t44) (.const (.int .i64 3)) 3) 4 w fun t45 w =>
      gK t45 false w (fun K => opK Try.prog (.fieldAddr 197 (.const t11) 2) 0 w K) fun t47 w =>
      gK t45 false w (fun K => ld1 t47 w K) fun t48 w =>
      gK t45 false w (fun K => opK Try.prog (.binOp .eql 3 (.const t48) (.const (.int .i64 7)) 3) 4 w K) fun t49 w =>
      opK Try.prog (.pick (.const t45) (.const (.bool true)) (.const t49)) 4 w fun t50 w =>
      opK Try.prog (.fieldAddr 197 (.const t11) 2) 0 w fun t51 w =>
      ld1 t51 w fun t52 w =>
      opK Try.prog (.binOp .eql 3 (.const t52) (.const (.int .i64 7)) 3) 4 w fun t53 w =>
      opK Try.prog (.build 66 #[(1, (.const t40)), (2, (.const t42)), (4, (.const t50)), (5, (.const t53))]) 66 w fun t54 w =>
      stn 11 t8 t54 w fun _ w =>
      resK Try.prog [(t8, some 66)] w (fun v w => R (.returned v) w))
      (opK Try.prog (.unOp .not 4 (.const t3)) 4 w fun t56 w =>
      boolK t56
        (callK Try.prog 108 #[(.int .i64 17)] w fun t57 w =>
        stn 11 t8 t57 w fun _ w =>
        resK Try.prog [(t8, some 66)] w (fun v w => R (.returned v) w))
        (opK Try.prog (.nilCheck (.const t0)) 0 w fun t60 w =>
        opK Try.prog (.fieldAddr 59 (.const t60) 1) 0 w fun t61 w =>
        ld1 t61 w fun t62 w =>
        opK Try.prog (.build 197 #[(0, (.const t1)), (1, (.const t2)), (2, (.const (.int .i64 4)))]) 197 w fun t65 w =>
        opK Try.prog (.buildSlice 57 1 #[(0, (.const t65))]) 57 w fun t66 w =>
        opK Try.prog (.call ⟨(.builtin .append), #[(.const t62), (.const t66)], #[57, 57]⟩) 57 w fun t67 w =>
        opK Try.prog (.nilCheck (.const t0)) 0 w fun t68 w =>
        opK Try.prog (.fieldAddr 59 (.const t68) 1) 0 w fun t69 w =>
        st1 t69 t67 w fun _ w =>
        opK Try.prog (.build 66 #[(1, (.const (.int .i64 (-1)))), (3, (.const (.bool true)))]) 66 w fun t70 w =>
        stn 11 t8 t70 w fun _ w =>
        resK Try.prog [(t8, some 66)] w (fun v w => R (.returned v) w))))
def an65 : Ann := (.seq none .no (.seq none .no (.seq none (.seq none .no (.two (.seq none .no .no) .no)) (.seq none .no (.seq none (.seq none .no (.two (.seq none .no (.seq none .no .no)) .no)) (.seq none (.seq none .no (.two (.seq none .no .no) .no)) (.seq none .no (.seq none .no .no))))))))
theorem vw65 (R : Ending → World → Prop) (t0 t1 t2 t3 : Value) (w : World) : W Try.prog Try.f65.ntmps (bodyOf Try.f65) an65 ⟨retK Try.prog Try.f65.results.toList fun v w => R (.returned v) w, retK Try.prog Try.f65.results.toList fun v w => R (.returned v) w, []⟩ (args0 0 [t0, t1, t2, t3]) w = vc65 R t0 t1 t2 t3 w := by kernel_rfl
theorem vk65 {R : Ending → World → Prop} {t0 t1 t2 t3 : Value} {w : World} (h : vc65 R t0 t1 t2 t3 w) : Calls Try.prog 65 #[t0, t1, t2, t3] w R :=
  calls_of_W mixed (fn := Try.f65) (c := bodyOf Try.f65) (by kernel_rfl) (by kernel_rfl) an65 (args := [t0, t1, t2, t3]) (by kernel_rfl) (by rw [vw65]; exact h)

/-- (*vault/vaultref.Bus).Ring -/
def vc66 (R : Ending → World → Prop) (t0 t1 t2 : Value) (w : World) : Prop :=
  opK Try.prog (.alloc 66) 0 w fun t6 w =>
  callK Try.prog 103 #[t0, t1] w fun t12 w =>
  opK Try.prog (.binOp .lss 3 (.const t12) (.const (.int .i64 0)) 3) 4 w fun t14 w =>
  gK t14 false w (fun K => K t0 w) fun t16 w =>
  gK t14 false w (fun K => opK Try.prog (.nilCheck (.const t16)) 0 w K) fun t17 w =>
  gK t14 false w (fun K => opK Try.prog (.fieldAddr 59 (.const t17) 0) 0 w K) fun t18 w =>
  gK t14 false w (fun K => ld1 t18 w K) fun t19 w =>
  gK t14 false w (fun K => K t12 w) fun t20 w =>
  gK t14 false w (fun K => opK Try.prog (.indexAddr 56 (.const t19) (.const t20)) 0 w K) fun t21 w =>
  gK t14 false w (fun K => opK Try.prog (.fieldAddr 189 (.const t21) 1) 0 w K) fun t22 w =>
  gK t14 false w (fun K => ld1 t22 w K) fun t23 w =>
  gK t14 false w (fun K => opK Try.prog (.unOp .not 4 (.const t23)) 4 w K) fun t24 w =>
  opK Try.prog (.pick (.const t14) (.const (.bool true)) (.const t24)) 4 w fun t25 w =>
  boolK t25
    (callK Try.prog 108 #[(.int .i64 6)] w fun t26 w =>
    stn 11 t6 t26 w fun _ w =>
    resK Try.prog [(t6, some 66)] w (fun v w => R (.returned v) w))
    (callK Try.prog 110 #[t0, t1] w fun t29 w =>
    opK Try.prog (.binOp .geq 3 (.const t29) (.const (.int .i64 0)) 3) 4 w fun t31 w =>
    boolK t31
      (callK Try.prog 111 #[t0, t29] w fun t34 w =>
      opK Try.prog (.alloc 197) 0 w fun t9 w =>
      stn 9 t9 t34 w fun _ w =>
      opK Try.prog (.fieldAddr 197 (.const t9) 1) 0 w fun t35 w =>
      ld1 t35 w fun t36 w =>
      opK Try.prog (.build 64 #[(2, (.const t2))]) 64 w fun t38 w =>
      opK Try.prog (.build 66 #[(1, (.const t36)), (2, (.const t38))]) 66 w fun t39 w =>
      stn 11 t6 t39 w fun _ w =>
      resK Try.prog [(t6, some 66)] w (fun v w => R (.returned v) w))
      (stK Try.prog (.nilCheck (.const t0)) 0 w.drew fun t41 =>
      stK Try.prog (.fieldAddr 59 (.const t41) 0) 0 w.drew fun t42 =>
      ld1 t42 w.drew fun t43 _ =>
      stK Try.prog (.nilCheck (.const t0)) 0 w.drew fun t46 =>
      stK Try.prog (.fieldAddr 59 (.const t46) 0) 0 w.drew fun t47 =>
      ld1 t47 w.drew fun t48 _ =>
      stK Try.prog (.indexAddr 56 (.const t48) (.const t12)) 0 w.drew fun t50 =>
      stK Try.prog (.fieldAddr 189 (.const t50) 2) 0 w.drew fun t51 =>
      ld1 t51 w.drew fun t52 _ =>
      stK Try.prog (.binOp .or 61 (.const t52) (.const t2) 61) 61 w.drew fun t54 =>
      stK Try.prog (.indexAddr 56 (.const t43) (.const t12)) 0 w.drew fun t55 =>
      stK Try.prog (.fieldAddr 189 (.const t55) 2) 0 w.drew fun t56 =>
      st1 t56 t54 w.drew fun _ w =>
      opK Try.prog (.build 66 #[(1, (.const (.int .i64 (-1))))]) 66 w fun t57 w =>
      stn 11 t6 t57 w fun _ w =>
      resK Try.prog [(t6, some 66)] w (fun v w => R (.returned v) w)))
def an66 : Ann := (.seq none .no (.seq none .no (.seq none (.seq none .no (.two (.seq none .no .no) .no)) (.seq none .no (.seq none (.seq none .no (.two (.seq none .no (.seq none .no .no)) .no)) (.seq none (.draw 17) (.seq none .no .no)))))))
theorem vw66 (R : Ending → World → Prop) (t0 t1 t2 : Value) (w : World) : W Try.prog Try.f66.ntmps (bodyOf Try.f66) an66 ⟨retK Try.prog Try.f66.results.toList fun v w => R (.returned v) w, retK Try.prog Try.f66.results.toList fun v w => R (.returned v) w, []⟩ (args0 0 [t0, t1, t2]) w = vc66 R t0 t1 t2 w := by kernel_rfl
theorem vk66 {R : Ending → World → Prop} {t0 t1 t2 : Value} {w : World} (h : vc66 R t0 t1 t2 w) : Calls Try.prog 66 #[t0, t1, t2] w R :=
  calls_of_W mixed (fn := Try.f66) (c := bodyOf Try.f66) (by kernel_rfl) (by kernel_rfl) an66 (args := [t0, t1, t2]) (by kernel_rfl) (by rw [vw66]; exact h)

/-- (*vault/ipc.Bus).Hear -/
def vc67 (R : Ending → World → Prop) (t0 t1 t2 t3 : Value) (w : World) : Prop :=
  opK Try.prog (.alloc 66) 0 w fun t8 w =>
  callK Try.prog 104 #[t0, t1, (.bool true), t2] w fun t16 w =>
  opK Try.prog (.extract (.const t16) 0) 127 w fun t17 w =>
  opK Try.prog (.extract (.const t16) 1) 28 w fun t18 w =>
  opK Try.prog (.binOp .neq 28 (.const t18) (.const (.int .i64 0)) 28) 4 w fun t21 w =>
  boolK t21
    (callK Try.prog 57 #[t18] w fun t23 w =>
    stn 11 t8 t23 w fun _ w =>
    resK Try.prog [(t8, some 66)] w (fun v w => R (.returned v) w))
    (opK Try.prog (.nilCheck (.const t17)) 0 w fun t26 w =>
    opK Try.prog (.fieldAddr 132 (.const t26) 2) 0 w fun t27 w =>
    ld1 t27 w fun t28 w =>
    opK Try.prog (.binOp .neq 61 (.const t28) (.const (.int .u32 0)) 61) 4 w fun t29 w =>
    boolK t29
      (opK Try.prog (.nilCheck (.const t17)) 0 w fun t31 w =>
      opK Try.prog (.fieldAddr 132 (.const t31) 2) 0 w fun t32 w =>
      ld1 t32 w fun t33 w =>
      opK Try.prog (.build 64 #[(2, (.const t33))]) 64 w fun t34 w =>
      opK Try.prog (.build 66 #[(1, (.const (.int .i64 (-1)))), (2, (.const t34))]) 66 w fun t35 w =>
      opK Try.prog (.alloc 66) 0 w fun t11 w =>
      stn 11 t11 t35 w fun _ w =>
      opK Try.prog (.nilCheck (.const t17)) 0 w fun t37 w =>
      opK Try.prog (.fieldAddr 132 (.const t37) 2) 0 w fun t38 w =>
      st1 t38 (.int .u32 0) w fun _ w =>
      ldn 11 t11 w fun t39 w =>
      stn 11 t8 t39 w fun _ w =>
      resK Try.prog [(t8, some 66)] w (fun v w => R (.returned v) w))
      (opK Try.prog (.unOp .not 4 (.const t3)) 4 w fun t42 w =>
      boolK t42
        (callK Try.prog 57 #[(.int .i64 17)] w fun t43 w =>
        stn 11 t8 t43 w fun _ w =>
        resK Try.prog [(t8, some 66)] w (fun v w => R (.returned v) w))
        (opK Try.prog (.build 135 #[(0, (.const t2)), (1, (.const (.int .i64 6)))]) 135 w fun t47 w =>
        callK Try.prog 107 #[t0, t1, t47] w fun t48 w =>
        stn 11 t8 t48 w fun _ w =>
        resK Try.prog [(t8, some 66)] w (fun v w => R (.returned v) w))))
def an67 : Ann := (.seq none .no (.seq none .no (.seq none (.one (.seq none .no (.two (.seq none .no .no) (.seq none .no (.two (.seq none .no (.seq none .no (.seq none .no .no))) (.seq none .no (.two (.seq none .no .no) .no))))))) (.seq none .no .no))))
theorem vw67 (R : Ending → World → Prop) (t0 t1 t2 t3 : Value) (w : World) : W Try.prog Try.f67.ntmps (bodyOf Try.f67) an67 ⟨retK Try.prog Try.f67.results.toList fun v w => R (.returned v) w, retK Try.prog Try.f67.results.toList fun v w => R (.returned v) w, []⟩ (args0 0 [t0, t1, t2, t3]) w = vc67 R t0 t1 t2 t3 w := by kernel_rfl
theorem vk67 {R : Ending → World → Prop} {t0 t1 t2 t3 : Value} {w : World} (h : vc67 R t0 t1 t2 t3 w) : Calls Try.prog 67 #[t0, t1, t2, t3] w R :=
  calls_of_W mixed (fn := Try.f67) (c := bodyOf Try.f67) (by kernel_rfl) (by kernel_rfl) an67 (args := [t0, t1, t2, t3]) (by kernel_rfl) (by rw [vw67]; exact h)

/-- (*vault/vaultref.Bus).Hear -/
def vc68 (R : Ending → World → Prop) (t0 t1 t2 t3 : Value) (w : World) : Prop :=
  opK Try.prog (.alloc 66) 0 w fun t8 w =>
  callK Try.prog 109 #[t0, t1, (.bool true), t2] w fun t15 w =>
  opK Try.prog (.binOp .neq 28 (.const t15) (.const (.int .i64 0)) 28) 4 w fun t17 w =>
  boolK t17
    (callK Try.prog 108 #[t15] w fun t19 w =>
    stn 11 t8 t19 w fun _ w =>
    resK Try.prog [(t8, some 66)] w (fun v w => R (.returned v) w))
    (callK Try.prog 103 #[t0, t1] w fun t22 w =>
    opK Try.prog (.nilCheck (.const t0)) 0 w fun t24 w =>
    opK Try.prog (.fieldAddr 59 (.const t24) 0) 0 w fun t25 w =>
    ld1 t25 w fun t26 w =>
    opK Try.prog (.indexAddr 56 (.const t26) (.const t22)) 0 w fun t28 w =>
    opK Try.prog (.fieldAddr 189 (.const t28) 2) 0 w fun t29 w =>
    ld1 t29 w fun t30 w =>
    opK Try.prog (.binOp .neq 61 (.const t30) (.const (.int .u32 0)) 61) 4 w fun t31 w =>
    boolK t31
      (opK Try.prog (.nilCheck (.const t0)) 0 w fun t33 w =>
      opK Try.prog (.fieldAddr 59 (.const t33) 0) 0 w fun t34 w =>
      ld1 t34 w fun t35 w =>
      opK Try.prog (.indexAddr 56 (.const t35) (.const t22)) 0 w fun t37 w =>
      opK Try.prog (.fieldAddr 189 (.const t37) 2) 0 w fun t38 w =>
      ld1 t38 w fun t39 w =>
      opK Try.prog (.nilCheck (.const t0)) 0 w fun t41 w =>
      opK Try.prog (.fieldAddr 59 (.const t41) 0) 0 w fun t42 w =>
      ld1 t42 w fun t43 w =>
      opK Try.prog (.indexAddr 56 (.const t43) (.const t22)) 0 w fun t45 w =>
      opK Try.prog (.fieldAddr 189 (.const t45) 2) 0 w fun t46 w =>
      st1 t46 (.int .u32 0) w fun _ w =>
      opK Try.prog (.build 64 #[(2, (.const t39))]) 64 w fun t48 w =>
      opK Try.prog (.build 66 #[(1, (.const (.int .i64 (-1)))), (2, (.const t48))]) 66 w fun t49 w =>
      stn 11 t8 t49 w fun _ w =>
      resK Try.prog [(t8, some 66)] w (fun v w => R (.returned v) w))
      (opK Try.prog (.unOp .not 4 (.const t3)) 4 w fun t51 w =>
      boolK t51
        (callK Try.prog 108 #[(.int .i64 17)] w fun t52 w =>
        stn 11 t8 t52 w fun _ w =>
        resK Try.prog [(t8, some 66)] w (fun v w => R (.returned v) w))
        (opK Try.prog (.nilCheck (.const t0)) 0 w fun t55 w =>
        opK Try.prog (.fieldAddr 59 (.const t55) 1) 0 w fun t56 w =>
        ld1 t56 w fun t57 w =>
        opK Try.prog (.build 197 #[(0, (.const t1)), (1, (.const t2)), (2, (.const (.int .i64 6)))]) 197 w fun t60 w =>
        opK Try.prog (.buildSlice 57 1 #[(0, (.const t60))]) 57 w fun t61 w =>
        opK Try.prog (.call ⟨(.builtin .append), #[(.const t57), (.const t61)], #[57, 57]⟩) 57 w fun t62 w =>
        opK Try.prog (.nilCheck (.const t0)) 0 w fun t63 w =>
        opK Try.prog (.fieldAddr 59 (.const t63) 1) 0 w fun t64 w =>
        st1 t64 t62 w fun _ w =>
        opK Try.prog (.build 66 #[(1, (.const (.int .i64 (-1)))), (3, (.const (.bool true)))]) 66 w fun t65 w =>
        stn 11 t8 t65 w fun _ w =>
        resK Try.prog [(t8, some 66)] w (fun v w => R (.returned v) w))))
def an68 : Ann := (.seq none .no (.seq none .no (.seq none (.seq none .no (.two (.seq none .no .no) .no)) (.seq none .no (.seq none (.seq none .no (.two (.seq none .no (.seq none .no (.seq none .no .no))) .no)) (.seq none (.seq none .no (.two (.seq none .no .no) .no)) (.seq none .no (.seq none .no .no))))))))
theorem vw68 (R : Ending → World → Prop) (t0 t1 t2 t3 : Value) (w : World) : W Try.prog Try.f68.ntmps (bodyOf Try.f68) an68 ⟨retK Try.prog Try.f68.results.toList fun v w => R (.returned v) w, retK Try.prog Try.f68.results.toList fun v w => R (.returned v) w, []⟩ (args0 0 [t0, t1, t2, t3]) w = vc68 R t0 t1 t2 t3 w := by kernel_rfl
theorem vk68 {R : Ending → World → Prop} {t0 t1 t2 t3 : Value} {w : World} (h : vc68 R t0 t1 t2 t3 w) : Calls Try.prog 68 #[t0, t1, t2, t3] w R :=
  calls_of_W mixed (fn := Try.f68) (c := bodyOf Try.f68) (by kernel_rfl) (by kernel_rfl) an68 (args := [t0, t1, t2, t3]) (by kernel_rfl) (by rw [vw68]; exact h)

/-- (*vault/ipc.Bus).Cancel -/
def vc69 (R : Ending → World → Prop) (t0 t1 : Value) (w : World) : Prop :=
  opK Try.prog (.box 3 (.const t1)) 0 w fun t3 w =>
  stK Try.prog (.nilCheck (.const t0)) 0 w.drew fun t10 =>
  stK Try.prog (.fieldAddr 126 (.const t10) 1) 0 w.drew fun t11 =>
  ld1 t11 w.drew fun t12 _ =>
  ld1 t3 w.drew fun t13 _ =>
  stK Try.prog (.lookup 124 (.const t12) (.const t13) true) 199 w.drew fun t14 =>
  stK Try.prog (.extract (.const t14) 0) 3 w.drew fun t15 =>
  stK Try.prog (.extract (.const t14) 1) 4 w.drew fun t16 =>
  opK Try.prog (.unOp .not 4 (.const t16)) 4 w.drew fun t18 w =>
  boolK t18
    (R (.returned (.int .i64 16)) w)
    (opK Try.prog (.nilCheck (.const t0)) 0 w fun t20 w =>
    opK Try.prog (.fieldAddr 126 (.const t20) 0) 0 w fun t21 w =>
    ld1 t21 w fun t22 w =>
    opK Try.prog (.lookup 123 (.const t22) (.const t15) false) 127 w fun t24 w =>
    opK Try.prog (.nilCheck (.const t24)) 0 w fun t26 w =>
    opK Try.prog (.fieldAddr 132 (.const t26) 1) 0 w fun t27 w =>
    opK Try.prog (.makeFunc (.func 113) #[] #[(.const t3)]) 200 w fun t28 w =>
    callK Try.prog 112 #[t27, t28] w fun t29 w =>
    stK Try.prog (.nilCheck (.const t0)) 0 w.drew fun t31 =>
    stK Try.prog (.fieldAddr 126 (.const t31) 1) 0 w.drew fun t32 =>
    ld1 t32 w.drew fun t33 _ =>
    ld1 t3 w.drew fun t34 _ =>
    opK Try.prog (.call ⟨(.builtin .delete), #[(.const t33), (.const t34)], #[124, 3]⟩) 0 w.drew fun _ w =>
    R (.returned (.int .i64 0)) w)
def an69 : Ann := (.seq none .no (.seq none (.draw 11) (.seq none (.seq none .no (.two (.seq none .no .no) .no)) (.seq none .no (.seq none .no (.seq none (.draw 5) (.seq none .no .no)))))))
theorem vw69 (R : Ending → World → Prop) (t0 t1 : Value) (w : World) : W Try.prog Try.f69.ntmps (bodyOf Try.f69) an69 ⟨retK Try.prog Try.f69.results.toList fun v w => R (.returned v) w, retK Try.prog Try.f69.results.toList fun v w => R (.returned v) w, []⟩ (args0 0 [t0, t1]) w = vc69 R t0 t1 w := by kernel_rfl
theorem vk69 {R : Ending → World → Prop} {t0 t1 : Value} {w : World} (h : vc69 R t0 t1 w) : Calls Try.prog 69 #[t0, t1] w R :=
  calls_of_W mixed (fn := Try.f69) (c := bodyOf Try.f69) (by kernel_rfl) (by kernel_rfl) an69 (args := [t0, t1]) (by kernel_rfl) (by rw [vw69]; exact h)

/-- (*vault/vaultref.Bus).Cancel -/
def vc70 (R : Ending → World → Prop) (t0 t1 : Value) (w : World) : Prop :=
  callK Try.prog 114 #[t0, t1] w fun t8 w =>
  opK Try.prog (.binOp .lss 3 (.const t8) (.const (.int .i64 0)) 3) 4 w fun t10 w =>
  boolK t10
    (R (.returned (.int .i64 16)) w)
    (callK Try.prog 111 #[t0, t8] w fun t13 w =>
    R (.returned (.int .i64 0)) w)
def an70 : Ann := (.seq none .no (.seq none .no (.seq none (.seq none .no (.two (.seq none .no .no) .no)) (.seq none .no (.seq none .no .no)))))
theorem vw70 (R : Ending → World → Prop) (t0 t1 : Value) (w : World) : W Try.prog Try.f70.ntmps (bodyOf Try.f70) an70 ⟨retK Try.prog Try.f70.results.toList fun v w => R (.returned v) w, retK Try.prog Try.f70.results.toList fun v w => R (.returned v) w, []⟩ (args0 0 [t0, t1]) w = vc70 R t0 t1 w := by kernel_rfl
theorem vk70 {R : Ending → World → Prop} {t0 t1 : Value} {w : World} (h : vc70 R t0 t1 w) : Calls Try.prog 70 #[t0, t1] w R :=
  calls_of_W mixed (fn := Try.f70) (c := bodyOf Try.f70) (by kernel_rfl) (by kernel_rfl) an70 (args := [t0, t1]) (by kernel_rfl) (by rw [vw70]; exact h)

/-- vault/vaultlaw.lines -/
def vc71 (R : Ending → World → Prop) (t0 t1 t2 t3 t4 : Value) (w : World) : Prop :=
  joinK 4 (fun (M1 : Value → Value → Value → Value → World → Prop) =>
    opK Try.prog (.binOp .eql 3 (.const t3) (.const (.int .i64 7)) 3) 4 w fun t17 w =>
    boolK t17
      (callK Try.prog 115 #[t0, t4] w fun t21 w =>
      opK Try.prog (.extract (.const t21) 0) 69 w fun t22 w =>
      opK Try.prog (.extract (.const t21) 1) 28 w fun t23 w =>
      callK Try.prog 116 #[t1, t4] w fun t27 w =>
      opK Try.prog (.extract (.const t27) 0) 69 w fun t28 w =>
      opK Try.prog (.extract (.const t27) 1) 28 w fun t29 w =>
      M1 t22 t28 t23 t29 w)
      (callK Try.prog 22 #[t0, t4] w fun t33 w =>
      opK Try.prog (.extract (.const t33) 0) 69 w fun t34 w =>
      opK Try.prog (.extract (.const t33) 1) 28 w fun t35 w =>
      callK Try.prog 117 #[t1, t4] w fun t39 w =>
      opK Try.prog (.extract (.const t39) 0) 69 w fun t40 w =>
      opK Try.prog (.extract (.const t39) 1) 28 w fun t41 w =>
      M1 t34 t40 t35 t41 w))
    (fun (t11 : Value) (t12 : Value) (t13 : Value) (t14 : Value) (w : World) =>
    callK Try.prog 50 #[t11, t12] w fun t44 w =>
    callK Try.prog 51 #[t2, t11] w fun t47 w =>
    gK t44 true w (fun K => K t13 w) fun t50 w =>
    gK t44 true w (fun K => K t14 w) fun t51 w =>
    gK t44 true w (fun K => opK Try.prog (.binOp .eql 28 (.const t50) (.const t51) 28) 4 w K) fun t52 w =>
    opK Try.prog (.pick (.const t44) (.const t52) (.const (.bool false))) 4 w fun t53 w =>
    R (.returned t53) w)
def an71 : Ann := (.seq none .no (.seq none .no (.seq none .no (.seq (some [11, 12, 13, 14]) (.seq none .no (.two (.seq none .no .no) (.seq none .no .no))) (.seq none .no (.seq none .no (.seq none .no .no)))))))
theorem vw71 (R : Ending → World → Prop) (t0 t1 t2 t3 t4 : Value) (w : World) : W Try.prog Try.f71.ntmps (bodyOf Try.f71) an71 ⟨retK Try.prog Try.f71.results.toList fun v w => R (.returned v) w, retK Try.prog Try.f71.results.toList fun v w => R (.returned v) w, []⟩ (args0 0 [t0, t1, t2, t3, t4]) w = vc71 R t0 t1 t2 t3 t4 w := by kernel_rfl
theorem vk71 {R : Ending → World → Prop} {t0 t1 t2 t3 t4 : Value} {w : World} (h : vc71 R t0 t1 t2 t3 t4 w) : Calls Try.prog 71 #[t0, t1, t2, t3, t4] w R :=
  calls_of_W mixed (fn := Try.f71) (c := bodyOf Try.f71) (by kernel_rfl) (by kernel_rfl) an71 (args := [t0, t1, t2, t3, t4]) (by kernel_rfl) (by rw [vw71]; exact h)

/-- (*vault/vaultref.Bus).Where -/
def vc73 (R : Ending → World → Prop) (t0 t1 : Value) (w : World) : Prop :=
  callK Try.prog 114 #[t0, t1] w fun t9 w =>
  opK Try.prog (.binOp .lss 3 (.const t9) (.const (.int .i64 0)) 3) 4 w fun t11 w =>
  boolK t11
    (R (.returned (.tuple #[(.int .i64 (-1)), (.int .i64 0)])) w)
    (stK Try.prog (.nilCheck (.const t0)) 0 w.drew fun t13 =>
    stK Try.prog (.fieldAddr 59 (.const t13) 1) 0 w.drew fun t14 =>
    ld1 t14 w.drew fun t15 _ =>
    stK Try.prog (.indexAddr 57 (.const t15) (.const t9)) 0 w.drew fun t17 =>
    stK Try.prog (.fieldAddr 197 (.const t17) 0) 0 w.drew fun t18 =>
    ld1 t18 w.drew fun t19 _ =>
    stK Try.prog (.nilCheck (.const t0)) 0 w.drew fun t21 =>
    stK Try.prog (.fieldAddr 59 (.const t21) 1) 0 w.drew fun t22 =>
    ld1 t22 w.drew fun t23 _ =>
    stK Try.prog (.indexAddr 57 (.const t23) (.const t9)) 0 w.drew fun t25 =>
    stK Try.prog (.fieldAddr 197 (.const t25) 2) 0 w.drew fun t26 =>
    ld1 t26 w.drew fun t27 _ =>
    R (.returned (.tuple #[t19, t27])) w.drew)
def an73 : Ann := (.seq none .no (.seq none .no (.seq none (.seq none .no (.two (.seq none .no .no) .no)) (.seq none (.draw 18) .no))))
theorem vw73 (R : Ending → World → Prop) (t0 t1 : Value) (w : World) : W Try.prog Try.f73.ntmps (bodyOf Try.f73) an73 ⟨retK Try.prog Try.f73.results.toList fun v w => R (.returned v) w, retK Try.prog Try.f73.results.toList fun v w => R (.returned v) w, []⟩ (args0 0 [t0, t1]) w = vc73 R t0 t1 w := by kernel_rfl
theorem vk73 {R : Ending → World → Prop} {t0 t1 : Value} {w : World} (h : vc73 R t0 t1 w) : Calls Try.prog 73 #[t0, t1] w R :=
  calls_of_W mixed (fn := Try.f73) (c := bodyOf Try.f73) (by kernel_rfl) (by kernel_rfl) an73 (args := [t0, t1]) (by kernel_rfl) (by rw [vw73]; exact h)

/-- (*vault/vaultref.Bus).Word -/
def vc74 (R : Ending → World → Prop) (t0 t1 : Value) (w : World) : Prop :=
  callK Try.prog 103 #[t0, t1] w fun t9 w =>
  opK Try.prog (.binOp .lss 3 (.const t9) (.const (.int .i64 0)) 3) 4 w fun t11 w =>
  gK t11 false w (fun K => K t0 w) fun t13 w =>
  gK t11 false w (fun K => opK Try.prog (.nilCheck (.const t13)) 0 w K) fun t14 w =>
  gK t11 false w (fun K => opK Try.prog (.fieldAddr 59 (.const t14) 0) 0 w K) fun t15 w =>
  gK t11 false w (fun K => ld1 t15 w K) fun t16 w =>
  gK t11 false w (fun K => K t9 w) fun t17 w =>
  gK t11 false w (fun K => opK Try.prog (.indexAddr 56 (.const t16) (.const t17)) 0 w K) fun t18 w =>
  gK t11 false w (fun K => opK Try.prog (.fieldAddr 189 (.const t18) 1) 0 w K) fun t19 w =>
  gK t11 false w (fun K => ld1 t19 w K) fun t20 w =>
  gK t11 false w (fun K => opK Try.prog (.unOp .not 4 (.const t20)) 4 w K) fun t21 w =>
  opK Try.prog (.pick (.const t11) (.const (.bool true)) (.const t21)) 4 w fun t22 w =>
  boolK t22
    (R (.returned (.tuple #[(.int .u32 0), (.int .i64 6)])) w)
    (opK Try.prog (.nilCheck (.const t0)) 0 w fun t24 w =>
    opK Try.prog (.fieldAddr 59 (.const t24) 0) 0 w fun t25 w =>
    ld1 t25 w fun t26 w =>
    opK Try.prog (.indexAddr 56 (.const t26) (.const t9)) 0 w fun t28 w =>
    opK Try.prog (.fieldAddr 189 (.const t28) 2) 0 w fun t29 w =>
    ld1 t29 w fun t30 w =>
    R (.returned (.tuple #[t30, (.int .i64 0)])) w)
def an74 : Ann := (.seq none .no (.seq none .no (.seq none (.seq none .no (.two (.seq none .no .no) .no)) (.seq none .no .no))))
theorem vw74 (R : Ending → World → Prop) (t0 t1 : Value) (w : World) : W Try.prog Try.f74.ntmps (bodyOf Try.f74) an74 ⟨retK Try.prog Try.f74.results.toList fun v w => R (.returned v) w, retK Try.prog Try.f74.results.toList fun v w => R (.returned v) w, []⟩ (args0 0 [t0, t1]) w = vc74 R t0 t1 w := by kernel_rfl
theorem vk74 {R : Ending → World → Prop} {t0 t1 : Value} {w : World} (h : vc74 R t0 t1 w) : Calls Try.prog 74 #[t0, t1] w R :=
  calls_of_W mixed (fn := Try.f74) (c := bodyOf Try.f74) (by kernel_rfl) (by kernel_rfl) an74 (args := [t0, t1]) (by kernel_rfl) (by rw [vw74]; exact h)

/-- (*vault/fifo.Line[vault/ipc.waiter]).All -/
def vc75 (R : Ending → World → Prop) (t0 : Value) (w : World) : Prop :=
  opK Try.prog (.box 186 (.const t0)) 0 w fun t1 w =>
  opK Try.prog (.makeFunc (.func 118) #[] #[(.const t1)]) 142 w fun t3 w =>
  R (.returned t3) w
def an75 : Ann := (.seq none .no (.seq none .no .no))
theorem vw75 (R : Ending → World → Prop) (t0 : Value) (w : World) : W Try.prog Try.f75.ntmps (bodyOf Try.f75) an75 ⟨retK Try.prog Try.f75.results.toList fun v w => R (.returned v) w, retK Try.prog Try.f75.results.toList fun v w => R (.returned v) w, []⟩ (args0 0 [t0]) w = vc75 R t0 w := by kernel_rfl
theorem vk75 {R : Ending → World → Prop} {t0 : Value} {w : World} (h : vc75 R t0 w) : Calls Try.prog 75 #[t0] w R :=
  calls_of_W mixed (fn := Try.f75) (c := bodyOf Try.f75) (by kernel_rfl) (by kernel_rfl) an75 (args := [t0]) (by kernel_rfl) (by rw [vw75]; exact h)

/-- (*vault/fifo.Line[vault/ipc.waiter]).Pop -/
def vc102 (R : Ending → World → Prop) (t0 : Value) (w : World) : Prop :=
  opK Try.prog (.alloc 135) 0 w fun t2 w =>
  opK Try.prog (.nilCheck (.const t0)) 0 w fun t5 w =>
  opK Try.prog (.fieldAddr 130 (.const t5) 0) 0 w fun t6 w =>
  ld1 t6 w fun t7 w =>
  opK Try.prog (.indexAddr 128 (.const t7) (.const (.int .i64 0))) 0 w fun t8 w =>
  ldn 8 t8 w fun t9 w =>
  opK Try.prog (.alloc 135) 0 w fun t3 w =>
  stn 8 t3 t9 w fun _ w =>
  opK Try.prog (.nilCheck (.const t0)) 0 w fun t12 w =>
  opK Try.prog (.fieldAddr 130 (.const t12) 0) 0 w fun t13 w =>
  ld1 t13 w fun t14 w =>
  callK Try.prog 130 #[t14, (.int .i64 0), (.int .i64 1)] w fun t15 w =>
  opK Try.prog (.nilCheck (.const t0)) 0 w fun t16 w =>
  opK Try.prog (.fieldAddr 130 (.const t16) 0) 0 w fun t17 w =>
  st1 t17 t15 w fun _ w =>
  ldn 8 t3 w fun t18 w =>
  stn 8 t2 t18 w fun _ w =>
  resK Try.prog [(t2, some 135)] w (fun v w => R (.returned v) w)
def an102 : Ann := (.seq none .no (.seq none .no (.seq none .no (.seq none .no .no))))
theorem vw102 (R : Ending → World → Prop) (t0 : Value) (w : World) : W Try.prog Try.f102.ntmps (bodyOf Try.f102) an102 ⟨retK Try.prog Try.f102.results.toList fun v w => R (.returned v) w, retK Try.prog Try.f102.results.toList fun v w => R (.returned v) w, []⟩ (args0 0 [t0]) w = vc102 R t0 w := by kernel_rfl
theorem vk102 {R : Ending → World → Prop} {t0 : Value} {w : World} (h : vc102 R t0 w) : Calls Try.prog 102 #[t0] w R :=
  calls_of_W mixed (fn := Try.f102) (c := bodyOf Try.f102) (by kernel_rfl) (by kernel_rfl) an102 (args := [t0]) (by kernel_rfl) (by rw [vw102]; exact h)

/-- (*vault/vaultref.Bus).place -/
def vc103 (R : Ending → World → Prop) (t0 t1 : Value) (w : World) : Prop :=
  (loopK 1 (fun (N1 : Value → World → Prop) (t5 : Value) (w : World) =>
    opK Try.prog (.nilCheck (.const t0)) 0 w fun t8 w =>
    opK Try.prog (.fieldAddr 59 (.const t8) 0) 0 w fun t9 w =>
    ld1 t9 w fun t10 w =>
    opK Try.prog (.call ⟨(.builtin .len), #[(.const t10)], #[56]⟩) 3 w fun t11 w =>
    opK Try.prog (.binOp .lss 3 (.const t5) (.const t11) 3) 4 w fun t12 w =>
    boolK t12
      (opK Try.prog (.nilCheck (.const t0)) 0 w fun t16 w =>
      opK Try.prog (.fieldAddr 59 (.const t16) 0) 0 w fun t17 w =>
      ld1 t17 w fun t18 w =>
      opK Try.prog (.indexAddr 56 (.const t18) (.const t5)) 0 w fun t20 w =>
      opK Try.prog (.fieldAddr 189 (.const t20) 0) 0 w fun t21 w =>
      ld1 t21 w fun t22 w =>
      opK Try.prog (.binOp .eql 3 (.const t22) (.const t1) 3) 4 w fun t24 w =>
      boolK t24
        (R (.returned t5) w)
        (opK Try.prog (.binOp .add 3 (.const t5) (.const (.int .i64 1)) 3) 3 w fun t14 w =>
        N1 t14 w))
      (R (.returned (.int .i64 (-1))) w)) : Value → World → Prop) (.int .i64 0) w
def an103 : Ann := (.seq none .no (.seq none (.seq none .no (.one (.loop [5] (.seq none (.seq none .no (.two .no .no)) (.seq none (.one (.seq none .no (.two (.seq none .no .no) .no))) .no))))) (.seq none .no .no)))
theorem vw103 (R : Ending → World → Prop) (t0 t1 : Value) (w : World) : W Try.prog Try.f103.ntmps (bodyOf Try.f103) an103 ⟨retK Try.prog Try.f103.results.toList fun v w => R (.returned v) w, retK Try.prog Try.f103.results.toList fun v w => R (.returned v) w, []⟩ (args0 0 [t0, t1]) w = vc103 R t0 t1 w := by kernel_rfl
theorem vk103 {R : Ending → World → Prop} {t0 t1 : Value} {w : World} (h : vc103 R t0 t1 w) : Calls Try.prog 103 #[t0, t1] w R :=
  calls_of_W mixed (fn := Try.f103) (c := bodyOf Try.f103) (by kernel_rfl) (by kernel_rfl) an103 (args := [t0, t1]) (by kernel_rfl) (by rw [vw103]; exact h)

/-- (*vault/ipc.Bus).at -/
def vc104 (R : Ending → World → Prop) (t0 t1 t2 t3 : Value) (w : World) : Prop :=
  opK Try.prog (.nilCheck (.const t0)) 0 w fun t14 w =>
  opK Try.prog (.fieldAddr 126 (.const t14) 0) 0 w fun t15 w =>
  ld1 t15 w fun t16 w =>
  opK Try.prog (.lookup 123 (.const t16) (.const t1) false) 127 w fun t18 w =>
  opK Try.prog (.binOp .eql 127 (.const t18) (.const (.pointer none)) 127) 4 w fun t20 w =>
  gK t20 false w (fun K => K t18 w) fun t22 w =>
  gK t20 false w (fun K => opK Try.prog (.nilCheck (.const t22)) 0 w K) fun t23 w =>
  gK t20 false w (fun K => opK Try.prog (.fieldAddr 132 (.const t23) 0) 0 w K) fun t24 w =>
  gK t20 false w (fun K => ld1 t24 w K) fun t25 w =>
  gK t20 false w (fun K => K t2 w) fun t26 w =>
  gK t20 false w (fun K => opK Try.prog (.binOp .neq 4 (.const t25) (.const t26) 4) 4 w K) fun t27 w =>
  opK Try.prog (.pick (.const t20) (.const (.bool true)) (.const t27)) 4 w fun t28 w =>
  boolK t28
    (R (.returned (.tuple #[(.pointer none), (.int .i64 6)])) w)
    (opK Try.prog (.nilCheck (.const t0)) 0 w fun t31 w =>
    opK Try.prog (.fieldAddr 126 (.const t31) 1) 0 w fun t32 w =>
    ld1 t32 w fun t33 w =>
    opK Try.prog (.lookup 124 (.const t33) (.const t3) true) 199 w fun t35 w =>
    opK Try.prog (.extract (.const t35) 0) 3 w fun t36 w =>
    opK Try.prog (.extract (.const t35) 1) 4 w fun t37 w =>
    boolK t37
      (R (.returned (.tuple #[(.pointer none), (.int .i64 16)])) w)
      (R (.returned (.tuple #[t18, (.int .i64 0)])) w))
def an104 : Ann := (.seq none .no (.seq none .no (.seq none (.seq none .no (.two (.seq none .no .no) .no)) (.seq none (.seq none .no (.seq none .no (.two (.seq none .no .no) .no))) (.seq none .no .no)))))
theorem vw104 (R : Ending → World → Prop) (t0 t1 t2 t3 : Value) (w : World) : W Try.prog Try.f104.ntmps (bodyOf Try.f104) an104 ⟨retK Try.prog Try.f104.results.toList fun v w => R (.returned v) w, retK Try.prog Try.f104.results.toList fun v w => R (.returned v) w, []⟩ (args0 0 [t0, t1, t2, t3]) w = vc104 R t0 t1 t2 t3 w := by kernel_rfl
theorem vk104 {R : Ending → World → Prop} {t0 t1 t2 t3 : Value} {w : World} (h : vc104 R t0 t1 t2 t3 w) : Calls Try.prog 104 #[t0, t1, t2, t3] w R :=
  calls_of_W mixed (fn := Try.f104) (c := bodyOf Try.f104) (by kernel_rfl) (by kernel_rfl) an104 (args := [t0, t1, t2, t3]) (by kernel_rfl) (by rw [vw104]; exact h)

/-- (*vault/ipc.place).gets -/
def vc105 (R : Ending → World → Prop) (t0 : Value) (w : World) : Prop :=
  opK Try.prog (.nilCheck (.const t0)) 0 w fun t4 w =>
  opK Try.prog (.fieldAddr 132 (.const t4) 1) 0 w fun t5 w =>
  callK Try.prog 58 #[t5] w fun t6 w =>
  opK Try.prog (.binOp .gtr 3 (.const t6) (.const (.int .i64 0)) 3) 4 w fun t7 w =>
  gK t7 true w (fun K => K t0 w) fun t9 w =>
  gK t7 true w (fun K => opK Try.prog (.nilCheck (.const t9)) 0 w K) fun t10 w =>
  gK t7 true w (fun K => opK Try.prog (.fieldAddr 132 (.const t10) 1) 0 w K) fun t11 w =>
  gK t7 true w (fun K => callK Try.prog 131 #[t11] w K) fun t12 w =>
  gK t7 true w (fun K => opK Try.prog (.field 135 (.const t12) 1) 3 w K) fun t13 w =>
  gK t7 true w (fun K => opK Try.prog (.binOp .eql 3 (.const t13) (.const (.int .i64 4)) 3) 4 w K) fun t14 w =>
  opK Try.prog (.pick (.const t7) (.const t14) (.const (.bool false))) 4 w fun t15 w =>
  R (.returned t15) w
def an105 : Ann := (.seq none .no (.seq none .no .no))
theorem vw105 (R : Ending → World → Prop) (t0 : Value) (w : World) : W Try.prog Try.f105.ntmps (bodyOf Try.f105) an105 ⟨retK Try.prog Try.f105.results.toList fun v w => R (.returned v) w, retK Try.prog Try.f105.results.toList fun v w => R (.returned v) w, []⟩ (args0 0 [t0]) w = vc105 R t0 w := by kernel_rfl
theorem vk105 {R : Ending → World → Prop} {t0 : Value} {w : World} (h : vc105 R t0 w) : Calls Try.prog 105 #[t0] w R :=
  calls_of_W mixed (fn := Try.f105) (c := bodyOf Try.f105) (by kernel_rfl) (by kernel_rfl) an105 (args := [t0]) (by kernel_rfl) (by rw [vw105]; exact h)

/-- vault/ipc.told -/
def vc106 (R : Ending → World → Prop) (t0 t1 t2 : Value) (w : World) : Prop :=
  opK Try.prog (.box 64 (.const t2)) 0 w fun t5 w =>
  opK Try.prog (.alloc 66) 0 w fun t6 w =>
  ldn 6 t5 w fun t8 w =>
  opK Try.prog (.binOp .eql 3 (.const t1) (.const (.int .i64 3)) 3) 4 w fun t10 w =>
  gK t10 false w (fun K => K t1 w) fun t12 w =>
  gK t10 false w (fun K => opK Try.prog (.binOp .eql 3 (.const t12) (.const (.int .i64 7)) 3) 4 w K) fun t13 w =>
  opK Try.prog (.pick (.const t10) (.const (.bool true)) (.const t13)) 4 w fun t14 w =>
  opK Try.prog (.binOp .eql 3 (.const t1) (.const (.int .i64 7)) 3) 4 w fun t16 w =>
  opK Try.prog (.build 66 #[(1, (.const t0)), (2, (.const t8)), (4, (.const t14)), (5, (.const t16))]) 66 w fun t17 w =>
  stn 11 t6 t17 w fun _ w =>
  resK Try.prog [(t6, some 66)] w (fun v w => R (.returned v) w)
def an106 : Ann := (.seq none .no (.seq none .no .no))
theorem vw106 (R : Ending → World → Prop) (t0 t1 t2 : Value) (w : World) : W Try.prog Try.f106.ntmps (bodyOf Try.f106) an106 ⟨retK Try.prog Try.f106.results.toList fun v w => R (.returned v) w, retK Try.prog Try.f106.results.toList fun v w => R (.returned v) w, []⟩ (args0 0 [t0, t1, t2]) w = vc106 R t0 t1 t2 w := by kernel_rfl
theorem vk106 {R : Ending → World → Prop} {t0 t1 t2 : Value} {w : World} (h : vc106 R t0 t1 t2 w) : Calls Try.prog 106 #[t0, t1, t2] w R :=
  calls_of_W mixed (fn := Try.f106) (c := bodyOf Try.f106) (by kernel_rfl) (by kernel_rfl) an106 (args := [t0, t1, t2]) (by kernel_rfl) (by rw [vw106]; exact h)

/-- (*vault/ipc.Bus).wait -/
def vc107 (R : Ending → World → Prop) (t0 t1 t2 : Value) (w : World) : Prop :=
  opK Try.prog (.box 135 (.const t2)) 0 w fun t5 w =>
  opK Try.prog (.alloc 66) 0 w fun t6 w =>
  opK Try.prog (.nilCheck (.const t0)) 0 w fun t9 w =>
  opK Try.prog (.fieldAddr 126 (.const t9) 0) 0 w fun t10 w =>
  ld1 t10 w fun t11 w =>
  opK Try.prog (.lookup 123 (.const t11) (.const t1) false) 127 w fun t13 w =>
  stK Try.prog (.nilCheck (.const t13)) 0 w.drew fun t15 =>
  stK Try.prog (.fieldAddr 132 (.const t15) 1) 0 w.drew fun t16 =>
  ldn 8 t5 w.drew fun t17 _ =>
  callK Try.prog 132 #[t16, t17] w.drew fun t18 w =>
  stK Try.prog (.nilCheck (.const t0)) 0 w.drew fun t20 =>
  stK Try.prog (.fieldAddr 126 (.const t20) 1) 0 w.drew fun t21 =>
  ld1 t21 w.drew fun t22 _ =>
  stK Try.prog (.fieldAddr 135 (.const t5) 0) 0 w.drew fun t23 =>
  ld1 t23 w.drew fun t24 _ =>
  opK Try.prog (.mapUpdate 124 (.const t22) (.const t24) (.const t1)) 0 w.drew fun _ w =>
  opK Try.prog (.build 66 #[(1, (.const (.int .i64 (-1)))), (3, (.const (.bool true)))]) 66 w fun t26 w =>
  stn 11 t6 t26 w fun _ w =>
  resK Try.prog [(t6, some 66)] w (fun v w => R (.returned v) w)
def an107 : Ann := (.seq none .no (.seq none .no (.seq none (.draw 4) (.seq none (.draw 7) (.seq none .no .no)))))
theorem vw107 (R : Ending → World → Prop) (t0 t1 t2 : Value) (w : World) : W Try.prog Try.f107.ntmps (bodyOf Try.f107) an107 ⟨retK Try.prog Try.f107.results.toList fun v w => R (.returned v) w, retK Try.prog Try.f107.results.toList fun v w => R (.returned v) w, []⟩ (args0 0 [t0, t1, t2]) w = vc107 R t0 t1 t2 w := by kernel_rfl
theorem vk107 {R : Ending → World → Prop} {t0 t1 t2 : Value} {w : World} (h : vc107 R t0 t1 t2 w) : Calls Try.prog 107 #[t0, t1, t2] w R :=
  calls_of_W mixed (fn := Try.f107) (c := bodyOf Try.f107) (by kernel_rfl) (by kernel_rfl) an107 (args := [t0, t1, t2]) (by kernel_rfl) (by rw [vw107]; exact h)

/-- vault/vaultref.refused -/
def vc108 (R : Ending → World → Prop) (t0 : Value) (w : World) : Prop :=
  opK Try.prog (.alloc 66) 0 w fun t2 w =>
  opK Try.prog (.build 66 #[(0, (.const t0)), (1, (.const (.int .i64 (-1))))]) 66 w fun t4 w =>
  stn 11 t2 t4 w fun _ w =>
  resK Try.prog [(t2, some 66)] w (fun v w => R (.returned v) w)
def an108 : Ann := (.seq none .no (.seq none .no .no))
theorem vw108 (R : Ending → World → Prop) (t0 : Value) (w : World) : W Try.prog Try.f108.ntmps (bodyOf Try.f108) an108 ⟨retK Try.prog Try.f108.results.toList fun v w => R (.returned v) w, retK Try.prog Try.f108.results.toList fun v w => R (.returned v) w, []⟩ (args0 0 [t0]) w = vc108 R t0 w := by kernel_rfl
theorem vk108 {R : Ending → World → Prop} {t0 : Value} {w : World} (h : vc108 R t0 w) : Calls Try.prog 108 #[t0] w R :=
  calls_of_W mixed (fn := Try.f108) (c := bodyOf Try.f108) (by kernel_rfl) (by kernel_rfl) an108 (args := [t0]) (by kernel_rfl) (by rw [vw108]; exact h)

/-- (*vault/vaultref.Bus).may -/
def vc109 (R : Ending → World → Prop) (t0 t1 t2 t3 : Value) (w : World) : Prop :=
  callK Try.prog 103 #[t0, t1] w fun t13 w =>
  opK Try.prog (.binOp .lss 3 (.const t13) (.const (.int .i64 0)) 3) 4 w fun t15 w =>
  gK t15 false w (fun K => K t0 w) fun t17 w =>
  gK t15 false w (fun K => opK Try.prog (.nilCheck (.const t17)) 0 w K) fun t18 w =>
  gK t15 false w (fun K => opK Try.prog (.fieldAddr 59 (.const t18) 0) 0 w K) fun t19 w =>
  gK t15 false w (fun K => ld1 t19 w K) fun t20 w =>
  gK t15 false w (fun K => K t13 w) fun t21 w =>
  gK t15 false w (fun K => opK Try.prog (.indexAddr 56 (.const t20) (.const t21)) 0 w K) fun t22 w =>
  gK t15 false w (fun K => opK Try.prog (.fieldAddr 189 (.const t22) 1) 0 w K) fun t23 w =>
  gK t15 false w (fun K => ld1 t23 w K) fun t24 w =>
  gK t15 false w (fun K => K t2 w) fun t25 w =>
  gK t15 false w (fun K => opK Try.prog (.binOp .neq 4 (.const t24) (.const t25) 4) 4 w K) fun t26 w =>
  opK Try.prog (.pick (.const t15) (.const (.bool true)) (.const t26)) 4 w fun t27 w =>
  boolK t27
    (R (.returned (.int .i64 6)) w)
    (callK Try.prog 114 #[t0, t3] w fun t30 w =>
    opK Try.prog (.binOp .geq 3 (.const t30) (.const (.int .i64 0)) 3) 4 w fun t32 w =>
    boolK t32
      (R (.returned (.int .i64 16)) w)
      (R (.returned (.int .i64 0)) w))
def an109 : Ann := (.seq none .no (.seq none .no (.seq none (.seq none .no (.two (.seq none .no .no) .no)) (.seq none .no (.seq none (.seq none .no (.two (.seq none .no .no) .no)) (.seq none .no .no))))))
theorem vw109 (R : Ending → World → Prop) (t0 t1 t2 t3 : Value) (w : World) : W Try.prog Try.f109.ntmps (bodyOf Try.f109) an109 ⟨retK Try.prog Try.f109.results.toList fun v w => R (.returned v) w, retK Try.prog Try.f109.results.toList fun v w => R (.returned v) w, []⟩ (args0 0 [t0, t1, t2, t3]) w = vc109 R t0 t1 t2 t3 w := by kernel_rfl
theorem vk109 {R : Ending → World → Prop} {t0 t1 t2 t3 : Value} {w : World} (h : vc109 R t0 t1 t2 t3 w) : Calls Try.prog 109 #[t0, t1, t2, t3] w R :=
  calls_of_W mixed (fn := Try.f109) (c := bodyOf Try.f109) (by kernel_rfl) (by kernel_rfl) an109 (args := [t0, t1, t2, t3]) (by kernel_rfl) (by rw [vw109]; exact h)

/-- (*vault/vaultref.Bus).first -/
def vc110 (R : Ending → World → Prop) (t0 t1 : Value) (w : World) : Prop :=
  (loopK 1 (fun (N1 : Value → World → Prop) (t5 : Value) (w : World) =>
    opK Try.prog (.nilCheck (.const t0)) 0 w fun t8 w =>
    opK Try.prog (.fieldAddr 59 (.const t8) 1) 0 w fun t9 w =>
    ld1 t9 w fun t10 w =>
    opK Try.prog (.call ⟨(.builtin .len), #[(.const t10)], #[57]⟩) 3 w fun t11 w =>
    opK Try.prog (.binOp .lss 3 (.const t5) (.const t11) 3) 4 w fun t12 w =>
    boolK t12
      (opK Try.prog (.nilCheck (.const t0)) 0 w fun t16 w =>
      opK Try.prog (.fieldAddr 59 (.const t16) 1) 0 w fun t17 w =>
      ld1 t17 w fun t18 w =>
      opK Try.prog (.indexAddr 57 (.const t18) (.const t5)) 0 w fun t20 w =>
      opK Try.prog (.fieldAddr 197 (.const t20) 0) 0 w fun t21 w =>
      ld1 t21 w fun t22 w =>
      opK Try.prog (.binOp .eql 3 (.const t22) (.const t1) 3) 4 w fun t24 w =>
      boolK t24
        (R (.returned t5) w)
        (opK Try.prog (.binOp .add 3 (.const t5) (.const (.int .i64 1)) 3) 3 w fun t14 w =>
        N1 t14 w))
      (R (.returned (.int .i64 (-1))) w)) : Value → World → Prop) (.int .i64 0) w
def an110 : Ann := (.seq none .no (.seq none (.seq none .no (.one (.loop [5] (.seq none (.seq none .no (.two .no .no)) (.seq none (.one (.seq none .no (.two (.seq none .no .no) .no))) .no))))) (.seq none .no .no)))
theorem vw110 (R : Ending → World → Prop) (t0 t1 : Value) (w : World) : W Try.prog Try.f110.ntmps (bodyOf Try.f110) an110 ⟨retK Try.prog Try.f110.results.toList fun v w => R (.returned v) w, retK Try.prog Try.f110.results.toList fun v w => R (.returned v) w, []⟩ (args0 0 [t0, t1]) w = vc110 R t0 t1 w := by kernel_rfl
theorem vk110 {R : Ending → World → Prop} {t0 t1 : Value} {w : World} (h : vc110 R t0 t1 w) : Calls Try.prog 110 #[t0, t1] w R :=
  calls_of_W mixed (fn := Try.f110) (c := bodyOf Try.f110) (by kernel_rfl) (by kernel_rfl) an110 (args := [t0, t1]) (by kernel_rfl) (by rw [vw110]; exact h)

/-- (*vault/vaultref.Bus).drop -/
def vc111 (R : Ending → World → Prop) (t0 t1 : Value) (w : World) : Prop :=
  opK Try.prog (.alloc 197) 0 w fun t4 w =>
  opK Try.prog (.nilCheck (.const t0)) 0 w fun t8 w =>
  opK Try.prog (.fieldAddr 59 (.const t8) 1) 0 w fun t9 w =>
  ld1 t9 w fun t10 w =>
  opK Try.prog (.indexAddr 57 (.const t10) (.const t1)) 0 w fun t12 w =>
  ldn 9 t12 w fun t13 w =>
  opK Try.prog (.alloc 197) 0 w fun t5 w =>
  stn 9 t5 t13 w fun _ w =>
  opK Try.prog (.nilCheck (.const t0)) 0 w fun t16 w =>
  opK Try.prog (.fieldAddr 59 (.const t16) 1) 0 w fun t17 w =>
  ld1 t17 w fun t18 w =>
  opK Try.prog (.slice 57 (.const t18) none (some (.const t1)) none) 57 w fun t20 w =>
  opK Try.prog (.call ⟨(.builtin .append), #[(.const (.slice none 0 0)), (.const t20)], #[57, 57]⟩) 57 w fun t21 w =>
  opK Try.prog (.nilCheck (.const t0)) 0 w fun t25 w =>
  opK Try.prog (.fieldAddr 59 (.const t25) 1) 0 w fun t26 w =>
  ld1 t26 w fun t27 w =>
  opK Try.prog (.binOp .add 3 (.const t1) (.const (.int .i64 1)) 3) 3 w fun t29 w =>
  opK Try.prog (.slice 57 (.const t27) (some (.const t29)) none none) 57 w fun t30 w =>
  opK Try.prog (.call ⟨(.builtin .append), #[(.const t21), (.const t30)], #[57, 57]⟩) 57 w fun t31 w =>
  opK Try.prog (.nilCheck (.const t0)) 0 w fun t32 w =>
  opK Try.prog (.fieldAddr 59 (.const t32) 1) 0 w fun t33 w =>
  st1 t33 t31 w fun _ w =>
  ldn 9 t5 w fun t34 w =>
  stn 9 t4 t34 w fun _ w =>
  resK Try.prog [(t4, some 197)] w (fun v w => R (.returned v) w)
def an111 : Ann := (.seq none .no (.seq none .no (.seq none .no (.seq none .no (.seq none .no (.seq none .no .no))))))
theorem vw111 (R : Ending → World → Prop) (t0 t1 : Value) (w : World) : W Try.prog Try.f111.ntmps (bodyOf Try.f111) an111 ⟨retK Try.prog Try.f111.results.toList fun v w => R (.returned v) w, retK Try.prog Try.f111.results.toList fun v w => R (.returned v) w, []⟩ (args0 0 [t0, t1]) w = vc111 R t0 t1 w := by kernel_rfl
theorem vk111 {R : Ending → World → Prop} {t0 t1 : Value} {w : World} (h : vc111 R t0 t1 w) : Calls Try.prog 111 #[t0, t1] w R :=
  calls_of_W mixed (fn := Try.f111) (c := bodyOf Try.f111) (by kernel_rfl) (by kernel_rfl) an111 (args := [t0, t1]) (by kernel_rfl) (by rw [vw111]; exact h)

/-- (*vault/fifo.Line[vault/ipc.waiter]).Drop -/
def vc112 (R : Ending → World → Prop) (t0 t1 : Value) (w : World) : Prop :=
  opK Try.prog (.nilCheck (.const t0)) 0 w fun t6 w =>
  opK Try.prog (.fieldAddr 130 (.const t6) 0) 0 w fun t7 w =>
  ld1 t7 w fun t8 w =>
  callK Try.prog 133 #[t8, t1] w fun t10 w =>
  opK Try.prog (.nilCheck (.const t0)) 0 w fun t11 w =>
  opK Try.prog (.fieldAddr 130 (.const t11) 0) 0 w fun t12 w =>
  st1 t12 t10 w fun _ w =>
  R (.returned (.tuple #[])) w
def an112 : Ann := .no
theorem vw112 (R : Ending → World → Prop) (t0 t1 : Value) (w : World) : W Try.prog Try.f112.ntmps (bodyOf Try.f112) an112 ⟨retK Try.prog Try.f112.results.toList fun v w => R (.returned v) w, retK Try.prog Try.f112.results.toList fun v w => R (.returned v) w, []⟩ (args0 0 [t0, t1]) w = vc112 R t0 t1 w := by kernel_rfl
theorem vk112 {R : Ending → World → Prop} {t0 t1 : Value} {w : World} (h : vc112 R t0 t1 w) : Calls Try.prog 112 #[t0, t1] w R :=
  calls_of_W mixed (fn := Try.f112) (c := bodyOf Try.f112) (by kernel_rfl) (by kernel_rfl) an112 (args := [t0, t1]) (by kernel_rfl) (by rw [vw112]; exact h)

/-- (*vault/ipc.Bus).Cancel$1 -/
def vc113 (R : Ending → World → Prop) (t0 t1 : Value) (w : World) : Prop :=
  opK Try.prog (.box 135 (.const t0)) 0 w fun t2 w =>
  opK Try.prog (.fieldAddr 135 (.const t2) 0) 0 w fun t4 w =>
  ld1 t4 w fun t5 w =>
  ld1 t1 w fun t6 w =>
  opK Try.prog (.binOp .eql 3 (.const t5) (.const t6) 3) 4 w fun t7 w =>
  R (.returned t7) w
def an113 : Ann := (.seq none .no (.seq none .no .no))
theorem vw113 (R : Ending → World → Prop) (t0 t1 : Value) (w : World) : W Try.prog Try.f113.ntmps (bodyOf Try.f113) an113 ⟨retK Try.prog Try.f113.results.toList fun v w => R (.returned v) w, retK Try.prog Try.f113.results.toList fun v w => R (.returned v) w, []⟩ (args0 0 [t0, t1]) w = vc113 R t0 t1 w := by kernel_rfl
theorem vk113 {R : Ending → World → Prop} {t0 t1 : Value} {w : World} (h : vc113 R t0 t1 w) : Calls Try.prog 113 #[t0, t1] w R :=
  calls_of_W mixed (fn := Try.f113) (c := bodyOf Try.f113) (by kernel_rfl) (by kernel_rfl) an113 (args := [t0, t1]) (by kernel_rfl) (by rw [vw113]; exact h)

/-- (*vault/vaultref.Bus).waits -/
def vc114 (R : Ending → World → Prop) (t0 t1 : Value) (w : World) : Prop :=
  (loopK 1 (fun (N1 : Value → World → Prop) (t5 : Value) (w : World) =>
    opK Try.prog (.nilCheck (.const t0)) 0 w fun t8 w =>
    opK Try.prog (.fieldAddr 59 (.const t8) 1) 0 w fun t9 w =>
    ld1 t9 w fun t10 w =>
    opK Try.prog (.call ⟨(.builtin .len), #[(.const t10)], #[57]⟩) 3 w fun t11 w =>
    opK Try.prog (.binOp .lss 3 (.const t5) (.const t11) 3) 4 w fun t12 w =>
    boolK t12
      (opK Try.prog (.nilCheck (.const t0)) 0 w fun t16 w =>
      opK Try.prog (.fieldAddr 59 (.const t16) 1) 0 w fun t17 w =>
      ld1 t17 w fun t18 w =>
      opK Try.prog (.indexAddr 57 (.const t18) (.const t5)) 0 w fun t20 w =>
      opK Try.prog (.fieldAddr 197 (.const t20) 1) 0 w fun t21 w =>
      ld1 t21 w fun t22 w =>
      opK Try.prog (.binOp .eql 3 (.const t22) (.const t1) 3) 4 w fun t24 w =>
      boolK t24
        (R (.returned t5) w)
        (opK Try.prog (.binOp .add 3 (.const t5) (.const (.int .i64 1)) 3) 3 w fun t14 w =>
        N1 t14 w))
      (R (.returned (.int .i64 (-1))) w)) : Value → World → Prop) (.int .i64 0) w
def an114 : Ann := (.seq none .no (.seq none (.seq none .no (.one (.loop [5] (.seq none (.seq none .no (.two .no .no)) (.seq none (.one (.seq none .no (.two (.seq none .no .no) .no))) .no))))) (.seq none .no .no)))
theorem vw114 (R : Ending → World → Prop) (t0 t1 : Value) (w : World) : W Try.prog Try.f114.ntmps (bodyOf Try.f114) an114 ⟨retK Try.prog Try.f114.results.toList fun v w => R (.returned v) w, retK Try.prog Try.f114.results.toList fun v w => R (.returned v) w, []⟩ (args0 0 [t0, t1]) w = vc114 R t0 t1 w := by kernel_rfl
theorem vk114 {R : Ending → World → Prop} {t0 t1 : Value} {w : World} (h : vc114 R t0 t1 w) : Calls Try.prog 114 #[t0, t1] w R :=
  calls_of_W mixed (fn := Try.f114) (c := bodyOf Try.f114) (by kernel_rfl) (by kernel_rfl) an114 (args := [t0, t1]) (by kernel_rfl) (by rw [vw114]; exact h)

/-- (*vault/ipc.Bus).Close -/
def vc115 (R : Ending → World → Prop) (t0 t1 : Value) (w : World) : Prop :=
  callK Try.prog 22 #[t0, t1] w fun t13 w =>
  opK Try.prog (.extract (.const t13) 0) 69 w fun t14 w =>
  opK Try.prog (.extract (.const t13) 1) 28 w fun t15 w =>
  opK Try.prog (.binOp .neq 28 (.const t15) (.const (.int .i64 0)) 28) 4 w fun t17 w =>
  boolK t17
    (R (.returned (.tuple #[(.slice none 0 0), t15])) w)
    (opK Try.prog (.call ⟨(.builtin .len), #[(.const t14)], #[69]⟩) 3 w fun t20 w =>
    (loopK 1 (fun (N1 : Value → World → Prop) (t21 : Value) (w : World) =>
      opK Try.prog (.binOp .lss 3 (.const t21) (.const t20) 3) 0 w fun t22 w =>
      boolK t22
        (opK Try.prog (.indexAddr 69 (.const t14) (.const t21)) 0 w fun t23 w =>
        ld1 t23 w fun t24 w =>
        opK Try.prog (.nilCheck (.const t0)) 0 w fun t26 w =>
        opK Try.prog (.fieldAddr 126 (.const t26) 1) 0 w fun t27 w =>
        ld1 t27 w fun t28 w =>
        opK Try.prog (.call ⟨(.builtin .delete), #[(.const t28), (.const t24)], #[124, 3]⟩) 0 w fun _ w =>
        opK Try.prog (.binOp .add 3 (.const t21) (.const (.int .i64 1)) 3) 3 w fun t30 w =>
        N1 t30 w)
        (opK Try.prog (.nilCheck (.const t0)) 0 w fun t32 w =>
        opK Try.prog (.fieldAddr 126 (.const t32) 0) 0 w fun t33 w =>
        ld1 t33 w fun t34 w =>
        opK Try.prog (.call ⟨(.builtin .delete), #[(.const t34), (.const t1)], #[123, 3]⟩) 0 w fun _ w =>
        R (.returned (.tuple #[t14, (.int .i64 0)])) w)) : Value → World → Prop) (.int .i64 0) w)
def an115 : Ann := (.seq none .no (.seq none .no (.seq none (.seq none .no (.two (.seq none .no .no) .no)) (.seq none (.seq none .no (.one (.loop [21] (.seq none .no (.seq none (.two .no .no) (.seq none (.one (.seq none .no .no)) .no)))))) (.seq none .no (.seq none .no .no))))))
theorem vw115 (R : Ending → World → Prop) (t0 t1 : Value) (w : World) : W Try.prog Try.f115.ntmps (bodyOf Try.f115) an115 ⟨retK Try.prog Try.f115.results.toList fun v w => R (.returned v) w, retK Try.prog Try.f115.results.toList fun v w => R (.returned v) w, []⟩ (args0 0 [t0, t1]) w = vc115 R t0 t1 w := by kernel_rfl
theorem vk115 {R : Ending → World → Prop} {t0 t1 : Value} {w : World} (h : vc115 R t0 t1 w) : Calls Try.prog 115 #[t0, t1] w R :=
  calls_of_W mixed (fn := Try.f115) (c := bodyOf Try.f115) (by kernel_rfl) (by kernel_rfl) an115 (args := [t0, t1]) (by kernel_rfl) (by rw [vw115]; exact h)

/-- (*vault/vaultref.Bus).Close -/
def vc116 (R : Ending → World → Prop) (t0 t1 : Value) (w : World) : Prop :=
  callK Try.prog 117 #[t0, t1] w fun t14 w =>
  opK Try.prog (.extract (.const t14) 0) 69 w fun t15 w =>
  opK Try.prog (.extract (.const t14) 1) 28 w fun t16 w =>
  opK Try.prog (.binOp .neq 28 (.const t16) (.const (.int .i64 0)) 28) 4 w fun t18 w =>
  boolK t18
    (R (.returned (.tuple #[(.slice none 0 0), t16])) w)
    ((loopK 1 (fun (N1 : Value → World → Prop) (t8 : Value) (w : World) =>
      opK Try.prog (.call ⟨(.builtin .len), #[(.const t15)], #[69]⟩) 3 w fun t22 w =>
      opK Try.prog (.binOp .lss 3 (.const t8) (.const t22) 3) 4 w fun t23 w =>
      boolK t23
        (opK Try.prog (.indexAddr 69 (.const t15) (.const t8)) 0 w fun t29 w =>
        ld1 t29 w fun t30 w =>
        callK Try.prog 70 #[t0, t30] w fun t31 w =>
        opK Try.prog (.binOp .add 3 (.const t8) (.const (.int .i64 1)) 3) 3 w fun t25 w =>
        N1 t25 w)
        (callK Try.prog 103 #[t0, t1] w fun t34 w =>
        opK Try.prog (.nilCheck (.const t0)) 0 w fun t37 w =>
        opK Try.prog (.fieldAddr 59 (.const t37) 0) 0 w fun t38 w =>
        ld1 t38 w fun t39 w =>
        opK Try.prog (.slice 56 (.const t39) none (some (.const t34)) none) 56 w fun t41 w =>
        opK Try.prog (.call ⟨(.builtin .append), #[(.const (.slice none 0 0)), (.const t41)], #[56, 56]⟩) 56 w fun t42 w =>
        opK Try.prog (.nilCheck (.const t0)) 0 w fun t46 w =>
        opK Try.prog (.fieldAddr 59 (.const t46) 0) 0 w fun t47 w =>
        ld1 t47 w fun t48 w =>
        opK Try.prog (.binOp .add 3 (.const t34) (.const (.int .i64 1)) 3) 3 w fun t50 w =>
        opK Try.prog (.slice 56 (.const t48) (some (.const t50)) none none) 56 w fun t51 w =>
        opK Try.prog (.call ⟨(.builtin .append), #[(.const t42), (.const t51)], #[56, 56]⟩) 56 w fun t52 w =>
        opK Try.prog (.nilCheck (.const t0)) 0 w fun t53 w =>
        opK Try.prog (.fieldAddr 59 (.const t53) 0) 0 w fun t54 w =>
        st1 t54 t52 w fun _ w =>
        R (.returned (.tuple #[t15, (.int .i64 0)])) w)) : Value → World → Prop) (.int .i64 0) w)
def an116 : Ann := (.seq none .no (.seq none .no (.seq none (.seq none .no (.two (.seq none .no .no) .no)) (.seq none (.seq none .no (.one (.loop [8] (.seq none (.seq none .no (.two .no .no)) (.seq none (.one .no) .no))))) (.seq none .no (.seq none .no (.seq none .no (.seq none .no (.seq none .no .no)))))))))
theorem vw116 (R : Ending → World → Prop) (t0 t1 : Value) (w : World) : W Try.prog Try.f116.ntmps (bodyOf Try.f116) an116 ⟨retK Try.prog Try.f116.results.toList fun v w => R (.returned v) w, retK Try.prog Try.f116.results.toList fun v w => R (.returned v) w, []⟩ (args0 0 [t0, t1]) w = vc116 R t0 t1 w := by kernel_rfl
theorem vk116 {R : Ending → World → Prop} {t0 t1 : Value} {w : World} (h : vc116 R t0 t1 w) : Calls Try.prog 116 #[t0, t1] w R :=
  calls_of_W mixed (fn := Try.f116) (c := bodyOf Try.f116) (by kernel_rfl) (by kernel_rfl) an116 (args := [t0, t1]) (by kernel_rfl) (by rw [vw116]; exact h)

/-- (*vault/vaultref.Bus).Line -/
def vc117 (R : Ending → World → Prop) (t0 t1 : Value) (w : World) : Prop :=
  callK Try.prog 103 #[t0, t1] w fun t11 w =>
  opK Try.prog (.binOp .lss 3 (.const t11) (.const (.int .i64 0)) 3) 4 w fun t13 w =>
  boolK t13
    (R (.returned (.tuple #[(.slice none 0 0), (.int .i64 6)])) w)
    ((loopK 2 (fun (N1 : Value → Value → World → Prop) (t7 : Value) (t8 : Value) (w : World) =>
      opK Try.prog (.nilCheck (.const t0)) 0 w fun t16 w =>
      opK Try.prog (.fieldAddr 59 (.const t16) 1) 0 w fun t17 w =>
      ld1 t17 w fun t18 w =>
      opK Try.prog (.call ⟨(.builtin .len), #[(.const t18)], #[57]⟩) 3 w fun t19 w =>
      opK Try.prog (.binOp .lss 3 (.const t8) (.const t19) 3) 4 w fun t20 w =>
      boolK t20
        (joinK 1 (fun (M2 : Value → World → Prop) =>
          opK Try.prog (.nilCheck (.const t0)) 0 w fun t24 w =>
          opK Try.prog (.fieldAddr 59 (.const t24) 1) 0 w fun t25 w =>
          ld1 t25 w fun t26 w =>
          opK Try.prog (.indexAddr 57 (.const t26) (.const t8)) 0 w fun t28 w =>
          opK Try.prog (.fieldAddr 197 (.const t28) 0) 0 w fun t29 w =>
          ld1 t29 w fun t30 w =>
          opK Try.prog (.binOp .eql 3 (.const t30) (.const t1) 3) 4 w fun t32 w =>
          boolK t32
            (opK Try.prog (.nilCheck (.const t0)) 0 w fun t35 w =>
            opK Try.prog (.fieldAddr 59 (.const t35) 1) 0 w fun t36 w =>
            ld1 t36 w fun t37 w =>
            opK Try.prog (.indexAddr 57 (.const t37) (.const t8)) 0 w fun t39 w =>
            opK Try.prog (.fieldAddr 197 (.const t39) 1) 0 w fun t40 w =>
            ld1 t40 w fun t41 w =>
            opK Try.prog (.buildSlice 69 1 #[(0, (.const t41))]) 69 w fun t42 w =>
            opK Try.prog (.call ⟨(.builtin .append), #[(.const t7), (.const t42)], #[69, 69]⟩) 69 w fun t43 w =>
            M2 t43 w)
            (M2 t7 w))
          (fun (t7_1 : Value) (w : World) =>
          opK Try.prog (.binOp .add 3 (.const t8) (.const (.int .i64 1)) 3) 3 w fun t22 w =>
          N1 t7_1 t22 w))
        (R (.returned (.tuple #[t7, (.int .i64 0)])) w)) : Value → Value → World → Prop) (.slice none 0 0) (.int .i64 0) w)
def an117 : Ann := (.seq none .no (.seq none .no (.seq none (.seq none .no (.two (.seq none .no .no) .no)) (.seq none .no (.seq none (.seq none .no (.one (.loop [7, 8] (.seq none (.seq none .no (.two .no .no)) (.seq (some [7]) (.one (.seq none .no (.two .no .no))) .no))))) (.seq none .no .no))))))
theorem vw117 (R : Ending → World → Prop) (t0 t1 : Value) (w : World) : W Try.prog Try.f117.ntmps (bodyOf Try.f117) an117 ⟨retK Try.prog Try.f117.results.toList fun v w => R (.returned v) w, retK Try.prog Try.f117.results.toList fun v w => R (.returned v) w, []⟩ (args0 0 [t0, t1]) w = vc117 R t0 t1 w := by kernel_rfl
theorem vk117 {R : Ending → World → Prop} {t0 t1 : Value} {w : World} (h : vc117 R t0 t1 w) : Calls Try.prog 117 #[t0, t1] w R :=
  calls_of_W mixed (fn := Try.f117) (c := bodyOf Try.f117) (by kernel_rfl) (by kernel_rfl) an117 (args := [t0, t1]) (by kernel_rfl) (by rw [vw117]; exact h)

/-- slices.Delete[[]vault/ipc.waiter,vault/ipc.waiter] -/
def vc130 (R : Ending → World → Prop) (t0 t1 t2 : Value) (w : World) : Prop :=
  opK Try.prog (.call ⟨(.builtin .len), #[(.const t0)], #[128]⟩) 3 w fun t12 w =>
  opK Try.prog (.slice 128 (.const t0) (some (.const t1)) (some (.const t2)) (some (.const t12))) 128 w fun t13 w =>
  opK Try.prog (.binOp .eql 3 (.const t1) (.const t2) 3) 4 w fun t16 w =>
  boolK t16
    (R (.returned t0) w)
    (opK Try.prog (.call ⟨(.builtin .len), #[(.const t0)], #[128]⟩) 3 w fun t19 w =>
    stK Try.prog (.slice 128 (.const t0) none (some (.const t1)) none) 128 w.drew fun t22 =>
    stK Try.prog (.slice 128 (.const t0) (some (.const t2)) none none) 128 w.drew fun t25 =>
    opK Try.prog (.call ⟨(.builtin .append), #[(.const t22), (.const t25)], #[128, 128]⟩) 128 w.drew fun t26 w =>
    opK Try.prog (.call ⟨(.builtin .len), #[(.const t26)], #[128]⟩) 3 w fun t29 w =>
    opK Try.prog (.slice 128 (.const t26) (some (.const t29)) (some (.const t19)) none) 128 w fun t31 w =>
    opK Try.prog (.call ⟨(.builtin .clear), #[(.const t31)], #[128]⟩) 0 w fun _ w =>
    R (.returned t26) w)
def an130 : Ann := (.seq none .no (.seq none .no (.seq none (.seq none .no (.two (.seq none .no .no) .no)) (.seq none .no (.seq none (.draw 6) (.seq none .no (.seq none .no .no)))))))
theorem vw130 (R : Ending → World → Prop) (t0 t1 t2 : Value) (w : World) : W Try.prog Try.f130.ntmps (bodyOf Try.f130) an130 ⟨retK Try.prog Try.f130.results.toList fun v w => R (.returned v) w, retK Try.prog Try.f130.results.toList fun v w => R (.returned v) w, []⟩ (args0 0 [t0, t1, t2]) w = vc130 R t0 t1 t2 w := by kernel_rfl
theorem vk130 {R : Ending → World → Prop} {t0 t1 t2 : Value} {w : World} (h : vc130 R t0 t1 t2 w) : Calls Try.prog 130 #[t0, t1, t2] w R :=
  calls_of_W mixed (fn := Try.f130) (c := bodyOf Try.f130) (by kernel_rfl) (by kernel_rfl) an130 (args := [t0, t1, t2]) (by kernel_rfl) (by rw [vw130]; exact h)

/-- (*vault/fifo.Line[vault/ipc.waiter]).First -/
def vc131 (R : Ending → World → Prop) (t0 : Value) (w : World) : Prop :=
  opK Try.prog (.alloc 135) 0 w fun t2 w =>
  opK Try.prog (.nilCheck (.const t0)) 0 w fun t4 w =>
  opK Try.prog (.fieldAddr 130 (.const t4) 0) 0 w fun t5 w =>
  ld1 t5 w fun t6 w =>
  opK Try.prog (.indexAddr 128 (.const t6) (.const (.int .i64 0))) 0 w fun t7 w =>
  ldn 8 t7 w fun t8 w =>
  stn 8 t2 t8 w fun _ w =>
  resK Try.prog [(t2, some 135)] w (fun v w => R (.returned v) w)
def an131 : Ann := (.seq none .no (.seq none .no .no))
theorem vw131 (R : Ending → World → Prop) (t0 : Value) (w : World) : W Try.prog Try.f131.ntmps (bodyOf Try.f131) an131 ⟨retK Try.prog Try.f131.results.toList fun v w => R (.returned v) w, retK Try.prog Try.f131.results.toList fun v w => R (.returned v) w, []⟩ (args0 0 [t0]) w = vc131 R t0 w := by kernel_rfl
theorem vk131 {R : Ending → World → Prop} {t0 : Value} {w : World} (h : vc131 R t0 w) : Calls Try.prog 131 #[t0] w R :=
  calls_of_W mixed (fn := Try.f131) (c := bodyOf Try.f131) (by kernel_rfl) (by kernel_rfl) an131 (args := [t0]) (by kernel_rfl) (by rw [vw131]; exact h)

/-- (*vault/fifo.Line[vault/ipc.waiter]).Push -/
def vc132 (R : Ending → World → Prop) (t0 t1 : Value) (w : World) : Prop :=
  opK Try.prog (.box 135 (.const t1)) 0 w fun t3 w =>
  stK Try.prog (.nilCheck (.const t0)) 0 w.drew fun t6 =>
  stK Try.prog (.fieldAddr 130 (.const t6) 0) 0 w.drew fun t7 =>
  ld1 t7 w.drew fun t8 _ =>
  ldn 8 t3 w.drew fun t9 _ =>
  opK Try.prog (.buildSlice 128 1 #[(0, (.const t9))]) 128 w.drew fun t10 w =>
  (ld1 t7 w fun v _ => v = t8) ∧
  (stK Try.prog (.fieldAddr 130 (.const t6) 0) 0 w fun v => v = t7) ∧
  (stK Try.prog (.nilCheck (.const t0)) 0 w fun v => v = t6) ∧
  opK Try.prog (.call ⟨(.builtin .append), #[(.const t8), (.const t10)], #[128, 128]⟩) 128 w fun t11 w =>
  stK Try.prog (.nilCheck (.const t0)) 0 w fun t12 =>
  stK Try.prog (.fieldAddr 130 (.const t12) 0) 0 w fun t13 =>
  st1 t13 t11 w fun _ w =>
  R (.returned (.tuple #[])) w
def an132 : Ann := (.seq none .no (.tree none (.seg [0, 1, 2, 3, 4, 5] (.eff 6 [5] (.seg [] (.eff 7 [2, 3, 4] (.seg [8, 9] (.eff 10 [8, 9] (.seg [] .fin)))))))))
theorem vw132 (R : Ending → World → Prop) (t0 t1 : Value) (w : World) : W Try.prog Try.f132.ntmps (bodyOf Try.f132) an132 ⟨retK Try.prog Try.f132.results.toList fun v w => R (.returned v) w, retK Try.prog Try.f132.results.toList fun v w => R (.returned v) w, []⟩ (args0 0 [t0, t1]) w = vc132 R t0 t1 w := by kernel_rfl
theorem vk132 {R : Ending → World → Prop} {t0 t1 : Value} {w : World} (h : vc132 R t0 t1 w) : Calls Try.prog 132 #[t0, t1] w R :=
  calls_of_W mixed (fn := Try.f132) (c := bodyOf Try.f132) (by kernel_rfl) (by kernel_rfl) an132 (args := [t0, t1]) (by kernel_rfl) (by rw [vw132]; exact h)

/-- slices.DeleteFunc[[]vault/ipc.waiter,vault/ipc.waiter] -/
def vc133 (R : Ending → World → Prop) (t0 t1 : Value) (w : World) : Prop :=
  callK Try.prog 137 #[t0, t1] w fun t10 w =>
  opK Try.prog (.binOp .eql 3 (.const t10) (.const (.int .i64 (-1))) 3) 4 w fun t12 w =>
  boolK t12
    (R (.returned t0) w)
    (opK Try.prog (.binOp .add 3 (.const t10) (.const (.int .i64 1)) 3) 3 w fun t15 w =>
    (loopK 2 (fun (N1 : Value → Value → World → Prop) (t5 : Value) (t6 : Value) (w : World) =>
      opK Try.prog (.call ⟨(.builtin .len), #[(.const t0)], #[128]⟩) 3 w fun t18 w =>
      opK Try.prog (.binOp .lss 3 (.const t6) (.const t18) 3) 4 w fun t19 w =>
      boolK t19
        (joinK 1 (fun (M2 : Value → World → Prop) =>
          opK Try.prog (.indexAddr 128 (.const t0) (.const t6)) 0 w fun t24 w =>
          ldn 8 t24 w fun t25 w =>
          opK Try.prog (.alloc 135) 0 w fun t7 w =>
          stn 8 t7 t25 w fun _ w =>
          ldn 8 t7 w fun t27 w =>
          opK Try.prog (.call ⟨(.value (.const t1)), #[(.const t27)], #[135]⟩) 4 w fun t28 w =>
          opK Try.prog (.unOp .not 4 (.const t28)) 4 w fun t29 w =>
          boolK t29
            (ldn 8 t7 w fun t32 w =>
            opK Try.prog (.indexAddr 128 (.const t0) (.const t5)) 0 w fun t33 w =>
            stn 8 t33 t32 w fun _ w =>
            opK Try.prog (.binOp .add 3 (.const t5) (.const (.int .i64 1)) 3) 3 w fun t35 w =>
            M2 t35 w)
            (M2 t5 w))
          (fun (t5_1 : Value) (w : World) =>
          opK Try.prog (.binOp .add 3 (.const t6) (.const (.int .i64 1)) 3) 3 w fun t21 w =>
          N1 t5_1 t21 w))
        (opK Try.prog (.slice 128 (.const t0) (some (.const t5)) none none) 128 w fun t38 w =>
        opK Try.prog (.call ⟨(.builtin .clear), #[(.const t38)], #[128]⟩) 0 w fun _ w =>
        opK Try.prog (.slice 128 (.const t0) none (some (.const t5)) none) 128 w fun t41 w =>
        R (.returned t41) w)) : Value → Value → World → Prop) t10 t15 w)
def an133 : Ann := (.seq none .no (.seq none .no (.seq none (.seq none .no (.two (.seq none .no .no) .no)) (.seq none (.seq none .no (.one (.loop [5, 6] (.seq none (.seq none .no (.two .no .no)) (.seq (some [5]) (.one (.seq none .no (.seq none .no (.two (.seq none .no .no) .no)))) .no))))) (.seq none .no (.seq none .no .no))))))
theorem vw133 (R : Ending → World → Prop) (t0 t1 : Value) (w : World) : W Try.prog Try.f133.ntmps (bodyOf Try.f133) an133 ⟨retK Try.prog Try.f133.results.toList fun v w => R (.returned v) w, retK Try.prog Try.f133.results.toList fun v w => R (.returned v) w, []⟩ (args0 0 [t0, t1]) w = vc133 R t0 t1 w := by kernel_rfl
theorem vk133 {R : Ending → World → Prop} {t0 t1 : Value} {w : World} (h : vc133 R t0 t1 w) : Calls Try.prog 133 #[t0, t1] w R :=
  calls_of_W mixed (fn := Try.f133) (c := bodyOf Try.f133) (by kernel_rfl) (by kernel_rfl) an133 (args := [t0, t1]) (by kernel_rfl) (by rw [vw133]; exact h)

/-- slices.IndexFunc[[]vault/ipc.waiter,vault/ipc.waiter] -/
def vc137 (R : Ending → World → Prop) (t0 t1 : Value) (w : World) : Prop :=
  opK Try.prog (.call ⟨(.builtin .len), #[(.const t0)], #[128]⟩) 3 w fun t7 w =>
  (loopK 1 (fun (N1 : Value → World → Prop) (t8 : Value) (w : World) =>
    opK Try.prog (.binOp .lss 3 (.const t8) (.const t7) 3) 0 w fun t9 w =>
    boolK t9
      (opK Try.prog (.indexAddr 128 (.const t0) (.const t8)) 0 w fun t14 w =>
      ldn 8 t14 w fun t15 w =>
      opK Try.prog (.call ⟨(.value (.const t1)), #[(.const t15)], #[135]⟩) 4 w fun t16 w =>
      boolK t16
        (R (.returned t8) w)
        (opK Try.prog (.binOp .add 3 (.const t8) (.const (.int .i64 1)) 3) 3 w fun t18 w =>
        N1 t18 w))
      (R (.returned (.int .i64 (-1))) w)) : Value → World → Prop) (.int .i64 0) w
def an137 : Ann := (.seq none .no (.seq none (.seq none .no (.one (.loop [8] (.seq none .no (.seq none (.two .no .no) (.seq none (.one (.seq none .no (.seq none .no (.two (.seq none .no .no) .no)))) .no)))))) (.seq none .no .no)))
theorem vw137 (R : Ending → World → Prop) (t0 t1 : Value) (w : World) : W Try.prog Try.f137.ntmps (bodyOf Try.f137) an137 ⟨retK Try.prog Try.f137.results.toList fun v w => R (.returned v) w, retK Try.prog Try.f137.results.toList fun v w => R (.returned v) w, []⟩ (args0 0 [t0, t1]) w = vc137 R t0 t1 w := by kernel_rfl
theorem vk137 {R : Ending → World → Prop} {t0 t1 : Value} {w : World} (h : vc137 R t0 t1 w) : Calls Try.prog 137 #[t0, t1] w R :=
  calls_of_W mixed (fn := Try.f137) (c := bodyOf Try.f137) (by kernel_rfl) (by kernel_rfl) an137 (args := [t0, t1]) (by kernel_rfl) (by rw [vw137]; exact h)

end Go.Proofs.Ytaniphdbebdhhaa
