/-
  The conditions that some functions come to, written by a program of this session's (vc.py) off the loaded dump; the kernel holds each against W. No condition.
-/
import Derived.Test.YtaniphdbebdhhaaProg
import Derived.Test.YtaniphdbebdhhaaVkW
import Derived.Test.YtaniphdbebdhhaaVcB
namespace Go.Proofs.Ytaniphdbebdhhaa
open Go.Vk
set_option maxRecDepth 100000
set_option linter.unusedVariables false

/-- vault/vaultlaw.PoolScripts -/
def vc6 (R : Ending → World → Prop) (t0 t1 : Value) (w : World) : Prop :=
  callK Try.prog 24 #[t0, (.int .i64 257)] w fun t20 w =>
  callK Try.prog 25 #[t20] w fun t23 w =>
  opK Try.prog (.extract (.const t23) 0) 76 w fun t24 w =>
  opK Try.prog (.extract (.const t23) 1) 28 w fun t25 w =>
  callK Try.prog 26 #[t20] w fun t28 w =>
  opK Try.prog (.extract (.const t28) 0) 79 w fun t29 w =>
  opK Try.prog (.extract (.const t28) 1) 28 w fun t30 w =>
  opK Try.prog (.binOp .neq 28 (.const t25) (.const t30) 28) 4 w fun t33 w =>
  gK t33 false w (fun K => K t24 w) fun t35 w =>
  gK t33 false w (fun K => opK Try.prog (.binOp .neq 76 (.const t35) (.const (.pointer none)) 76) 4 w K) fun t36 w =>
  gK t33 false w (fun K => K t29 w) fun t37 w =>
  gK t33 false w (fun K => opK Try.prog (.binOp .neq 79 (.const t37) (.const (.pointer none)) 79) 4 w K) fun t38 w =>
  gK t33 false w (fun K => opK Try.prog (.binOp .neq 4 (.const t36) (.const t38) 4) 4 w K) fun t39 w =>
  opK Try.prog (.pick (.const t33) (.const (.bool true)) (.const t39)) 4 w fun t40 w =>
  boolK t40
    (R (.returned (.bool false)) w)
    (callK Try.prog 25 #[(.int .i64 5)] w fun t42 w =>
    opK Try.prog (.extract (.const t42) 0) 76 w fun t43 w =>
    opK Try.prog (.extract (.const t42) 1) 28 w fun t44 w =>
    opK Try.prog (.binOp .eql 76 (.const t43) (.const (.pointer none)) 76) 4 w fun t46 w =>
    gK t46 false w (fun K => K t44 w) fun t48 w =>
    gK t46 false w (fun K => opK Try.prog (.binOp .neq 28 (.const t48) (.const (.int .i64 0)) 28) 4 w K) fun t49 w =>
    opK Try.prog (.pick (.const t46) (.const (.bool true)) (.const t49)) 4 w fun t50 w =>
    boolK t50
      (R (.returned (.bool false)) w)
      (opK Try.prog (.build 84 #[(0, (.const (.int .i64 1))), (1, (.const (.int .i64 2)))]) 84 w fun t52 w =>
      callK Try.prog 27 #[t43, t52] w fun t53 w =>
      callK Try.prog 28 #[t43, (.int .i64 2), (.int .i64 7), (.int .i64 0), (.int .i64 1)] w fun t56 w =>
      opK Try.prog (.extract (.const t56) 0) 69 w fun t57 w =>
      opK Try.prog (.extract (.const t56) 1) 28 w fun t58 w =>
      opK Try.prog (.call ⟨(.builtin .len), #[(.const t57)], #[69]⟩) 3 w fun t60 w =>
      opK Try.prog (.binOp .neq 3 (.const t60) (.const (.int .i64 1)) 3) 4 w fun t61 w =>
      boolK t61
        (R (.returned (.bool false)) w)
        (opK Try.prog (.binOp .eql 76 (.const t24) (.const (.pointer none)) 76) 4 w fun t63 w =>
        boolK t63
          (R (.returned (.bool true)) w)
          (opK Try.prog (.build 47 #[]) 47 w fun t64 w =>
          opK Try.prog (.box 47 (.const t64)) 39 w fun t65 w =>
          (loopK 1 (fun (N1 : Value → World → Prop) (t14 : Value) (w : World) =>
            opK Try.prog (.call ⟨(.builtin .len), #[(.const t1)], #[25]⟩) 3 w fun t68 w =>
            opK Try.prog (.binOp .lss 3 (.const t14) (.const t68) 3) 4 w fun t69 w =>
            gK t69 true w (fun K => K t14 w) fun t71 w =>
            gK t69 true w (fun K => opK Try.prog (.binOp .lss 3 (.const t71) (.const (.int .i64 262144)) 3) 4 w K) fun t72 w =>
            opK Try.prog (.pick (.const t69) (.const t72) (.const (.bool false))) 4 w fun t73 w =>
            boolK t73
              (opK Try.prog (.indexAddr 25 (.const t1) (.const t14)) 0 w fun t81 w =>
              ldn 6 t81 w fun t82 w =>
              callK Try.prog 29 #[t24, t29, t65, t82] w fun t83 w =>
              opK Try.prog (.unOp .not 4 (.const t83)) 4 w fun t85 w =>
              boolK t85
                (R (.returned (.bool false)) w)
                (opK Try.prog (.binOp .add 3 (.const t14) (.const (.int .i64 1)) 3) 3 w fun t75 w =>
                N1 t75 w))
              (callK Try.prog 30 #[t24, t29, t65] w fun t89 w =>
              callK Try.prog 16 #[t65] w fun t91 w =>
              callK Try.prog 31 #[t43, (.int .i64 2)] w fun t94 w =>
              opK Try.prog (.extract (.const t94) 0) 3 w fun t95 w =>
              opK Try.prog (.extract (.const t94) 1) 28 w fun t96 w =>
              gK t89 true w (fun K => K t91 w) fun t99 w =>
              opK Try.prog (.pick (.const t89) (.const t99) (.const (.bool false))) 4 w fun t100 w =>
              gK t100 true w (fun K => K t95 w) fun t102 w =>
              gK t100 true w (fun K => opK Try.prog (.binOp .eql 3 (.const t102) (.const (.int .i64 1)) 3) 4 w K) fun t103 w =>
              opK Try.prog (.pick (.const t100) (.const t103) (.const (.bool false))) 4 w fun t104 w =>
              gK t104 true w (fun K => K t96 w) fun t106 w =>
              gK t104 true w (fun K => opK Try.prog (.binOp .eql 28 (.const t106) (.const (.int .i64 0)) 28) 4 w K) fun t107 w =>
              opK Try.prog (.pick (.const t104) (.const t107) (.const (.bool false))) 4 w fun t108 w =>
              R (.returned t108) w)) : Value → World → Prop) (.int .i64 0) w))))
def an6 : Ann := (.cut [0, 1] .no (.cut [1, 5] .no (.cut [1, 5, 6, 7] .no (.cut [1, 6, 7, 8, 9] .no (.cut [1, 6, 8] (.cut [1, 6, 8, 40] .no (.two (.cut [4] .no .no) .no)) (.cut [1, 6, 7, 8, 10] .no (.cut [1, 6, 8, 10] (.cut [1, 6, 8, 10, 50] .no (.two (.cut [4] .no .no) .no)) (.cut [1, 6, 8, 10] .no (.cut [1, 6, 8, 10, 11] .no (.cut [1, 6, 8, 10] (.cut [1, 6, 8, 10, 61] .no (.two (.cut [4] .no .no) .no)) (.cut [1, 6, 8, 10] (.cut [1, 6, 8, 10, 63] .no (.two (.cut [4] .no .no) .no)) (.cut [1, 6, 8, 10, 13] .no (.cut [6, 8, 10, 13] (.cut [1, 6, 8, 10, 13, 14] .no (.one (.loop [14] (.cut [1, 6, 8, 10, 13, 14] (.cut [1, 6, 8, 10, 13, 14, 73] .no (.two .no .no)) (.cut [1, 6, 8, 10, 13, 14] (.one (.cut [1, 6, 8, 10, 13, 14, 15] .no (.cut [1, 6, 8, 10, 13, 14, 85] .no (.two (.cut [4] .no .no) .no)))) .no))))) (.cut [10, 13, 16] .no (.cut [10, 16, 17] .no (.cut [7, 16, 17, 18] .no (.cut [4] .no .no)))))))))))))))))
theorem vw6 (R : Ending → World → Prop) (t0 t1 : Value) (w : World) : W Try.prog Try.f6.ntmps (bodyOf Try.f6) an6 ⟨retK Try.prog Try.f6.results.toList fun v w => R (.returned v) w, retK Try.prog Try.f6.results.toList fun v w => R (.returned v) w, []⟩ (args0 0 [t0, t1]) w = vc6 R t0 t1 w := by kernel_rfl
theorem vk6 {R : Ending → World → Prop} {t0 t1 : Value} {w : World} (h : vc6 R t0 t1 w) : Calls Try.prog 6 #[t0, t1] w R :=
  calls_of_W mixed (fn := Try.f6) (c := bodyOf Try.f6) (by kernel_rfl) (by kernel_rfl) an6 (args := [t0, t1]) (by kernel_rfl) (by rw [vw6]; exact h)

/-- vault/pool.New -/
def vc25 (R : Ending → World → Prop) (t0 : Value) (w : World) : Prop :=
  opK Try.prog (.binOp .lss 3 (.const t0) (.const (.int .i64 1)) 3) 4 w fun t5 w =>
  gK t5 false w (fun K => K t0 w) fun t7 w =>
  gK t5 false w (fun K => opK Try.prog (.binOp .gtr 3 (.const t7) (.const (.int .i64 256)) 3) 4 w K) fun t8 w =>
  opK Try.prog (.pick (.const t5) (.const (.bool true)) (.const t8)) 4 w fun t9 w =>
  boolK t9
    (R (.returned (.tuple #[(.pointer none), (.int .i64 1)])) w)
    (opK Try.prog (.makeMap 145 none) 145 w fun t10 w =>
    opK Try.prog (.makeSlice 146 (.const t0) (.const t0)) 146 w fun t12 w =>
    opK Try.prog (.build 148 #[(0, (.const t10)), (1, (.const t12))]) 148 w fun t13 w =>
    opK Try.prog (.box 148 (.const t13)) 76 w fun t14 w =>
    R (.returned (.tuple #[t14, (.int .i64 0)])) w)
def an25 : Ann := (.seq none .no (.seq none (.seq none .no (.two (.seq none .no .no) .no)) (.seq none .no .no)))
theorem vw25 (R : Ending → World → Prop) (t0 : Value) (w : World) : W Try.prog Try.f25.ntmps (bodyOf Try.f25) an25 ⟨retK Try.prog Try.f25.results.toList fun v w => R (.returned v) w, retK Try.prog Try.f25.results.toList fun v w => R (.returned v) w, []⟩ (args0 0 [t0]) w = vc25 R t0 w := by kernel_rfl
theorem vk25 {R : Ending → World → Prop} {t0 : Value} {w : World} (h : vc25 R t0 w) : Calls Try.prog 25 #[t0] w R :=
  calls_of_W mixed (fn := Try.f25) (c := bodyOf Try.f25) (by kernel_rfl) (by kernel_rfl) an25 (args := [t0]) (by kernel_rfl) (by rw [vw25]; exact h)

/-- vault/vaultref.NewPool -/
def vc26 (R : Ending → World → Prop) (t0 : Value) (w : World) : Prop :=
  opK Try.prog (.binOp .lss 3 (.const t0) (.const (.int .i64 1)) 3) 4 w fun t5 w =>
  gK t5 false w (fun K => K t0 w) fun t7 w =>
  gK t5 false w (fun K => opK Try.prog (.binOp .gtr 3 (.const t7) (.const (.int .i64 256)) 3) 4 w K) fun t8 w =>
  opK Try.prog (.pick (.const t5) (.const (.bool true)) (.const t8)) 4 w fun t9 w =>
  boolK t9
    (R (.returned (.tuple #[(.pointer none), (.int .i64 1)])) w)
    (opK Try.prog (.build 151 #[(0, (.const t0))]) 151 w fun t11 w =>
    opK Try.prog (.box 151 (.const t11)) 79 w fun t12 w =>
    R (.returned (.tuple #[t12, (.int .i64 0)])) w)
def an26 : Ann := (.seq none .no (.seq none (.seq none .no (.two (.seq none .no .no) .no)) (.seq none .no .no)))
theorem vw26 (R : Ending → World → Prop) (t0 : Value) (w : World) : W Try.prog Try.f26.ntmps (bodyOf Try.f26) an26 ⟨retK Try.prog Try.f26.results.toList fun v w => R (.returned v) w, retK Try.prog Try.f26.results.toList fun v w => R (.returned v) w, []⟩ (args0 0 [t0]) w = vc26 R t0 w := by kernel_rfl
theorem vk26 {R : Ending → World → Prop} {t0 : Value} {w : World} (h : vc26 R t0 w) : Calls Try.prog 26 #[t0] w R :=
  calls_of_W mixed (fn := Try.f26) (c := bodyOf Try.f26) (by kernel_rfl) (by kernel_rfl) an26 (args := [t0]) (by kernel_rfl) (by rw [vw26]; exact h)

/-- (*vault/pool.Pool).Add -/
def vc27 (R : Ending → World → Prop) (t0 t1 : Value) (w : World) : Prop :=
  opK Try.prog (.box 84 (.const t1)) 0 w fun t3 w =>
  opK Try.prog (.fieldAddr 84 (.const t3) 0) 0 w fun t12 w =>
  ld1 t12 w fun t13 w =>
  opK Try.prog (.binOp .lss 3 (.const t13) (.const (.int .i64 1)) 3) 4 w fun t14 w =>
  gK t14 false w (fun K => opK Try.prog (.fieldAddr 84 (.const t3) 0) 0 w K) fun t16 w =>
  gK t14 false w (fun K => ld1 t16 w K) fun t17 w =>
  gK t14 false w (fun K => opK Try.prog (.binOp .gtr 3 (.const t17) (.const (.int .i64 8)) 3) 4 w K) fun t18 w =>
  opK Try.prog (.pick (.const t14) (.const (.bool true)) (.const t18)) 4 w fun t19 w =>
  boolK t19
    (R (.returned (.int .i64 12)) w)
    (opK Try.prog (.fieldAddr 84 (.const t3) 1) 0 w fun t20 w =>
    ld1 t20 w fun t21 w =>
    joinK 2 (fun (M1 : Value → Value → World → Prop) =>
      opK Try.prog (.fieldAddr 84 (.const t3) 0) 0 w fun t22 w =>
      ld1 t22 w fun t23 w =>
      opK Try.prog (.binOp .eql 3 (.const t23) (.const (.int .i64 1)) 3) 4 w fun t24 w =>
      boolK t24
        (opK Try.prog (.fieldAddr 84 (.const t3) 1) 0 w fun t26 w =>
        ld1 t26 w fun t27 w =>
        callK Try.prog 76 #[t27] w fun t28 w =>
        opK Try.prog (.extract (.const t28) 0) 3 w fun t29 w =>
        opK Try.prog (.extract (.const t28) 1) 3 w fun t30 w =>
        M1 t29 t30 w)
        (M1 t21 (.int .i64 0) w))
      (fun (t5 : Value) (t6 : Value) (w : World) =>
      opK Try.prog (.fieldAddr 84 (.const t3) 1) 0 w fun t31 w =>
      ld1 t31 w fun t32 w =>
      opK Try.prog (.binOp .lss 3 (.const t32) (.const (.int .i64 0)) 3) 4 w fun t33 w =>
      gK t33 false w (fun K => K t6 w) fun t35 w =>
      gK t33 false w (fun K => opK Try.prog (.binOp .gtr 3 (.const t35) (.const (.int .i64 8)) 3) 4 w K) fun t36 w =>
      opK Try.prog (.pick (.const t33) (.const (.bool true)) (.const t36)) 4 w fun t37 w =>
      boolK t37
        (R (.returned (.int .i64 1)) w)
        (opK Try.prog (.binOp .shl 3 (.const (.int .i64 1)) (.const t6) 3) 3 w fun t39 w =>
        opK Try.prog (.binOp .rem 3 (.const t5) (.const t39) 3) 3 w fun t42 w =>
        opK Try.prog (.binOp .neq 3 (.const t42) (.const (.int .i64 0)) 3) 4 w fun t43 w =>
        gK t43 false w (fun K => K t5 w) fun t45 w =>
        gK t43 false w (fun K => K t0 w) fun t46 w =>
        gK t43 false w (fun K => opK Try.prog (.nilCheck (.const t46)) 0 w K) fun t47 w =>
        gK t43 false w (fun K => opK Try.prog (.fieldAddr 148 (.const t47) 1) 0 w K) fun t48 w =>
        gK t43 false w (fun K => ld1 t48 w K) fun t49 w =>
        gK t43 false w (fun K => opK Try.prog (.call ⟨(.builtin .len), #[(.const t49)], #[146]⟩) 3 w K) fun t50 w =>
        gK t43 false w (fun K => K t39 w) fun t51 w =>
        gK t43 false w (fun K => opK Try.prog (.binOp .sub 3 (.const t50) (.const t51) 3) 3 w K) fun t52 w =>
        gK t43 false w (fun K => opK Try.prog (.binOp .gtr 3 (.const t45) (.const t52) 3) 4 w K) fun t53 w =>
        opK Try.prog (.pick (.const t43) (.const (.bool true)) (.const t53)) 4 w fun t54 w =>
        boolK t54
          (R (.returned (.int .i64 1)) w)
          (opK Try.prog (.nilCheck (.const t0)) 0 w fun t56 w =>
          opK Try.prog (.fieldAddr 148 (.const t56) 1) 0 w fun t57 w =>
          ld1 t57 w fun t58 w =>
          opK Try.prog (.binOp .add 3 (.const t5) (.const t39) 3) 3 w fun t62 w =>
          opK Try.prog (.slice 146 (.const t58) (some (.const t5)) (some (.const t62)) none) 146 w fun t63 w =>
          opK Try.prog (.call ⟨(.builtin .len), #[(.const t63)], #[146]⟩) 3 w fun t64 w =>
          (loopK 1 (fun (N2 : Value → World → Prop) (t65 : Value) (w : World) =>
            opK Try.prog (.binOp .lss 3 (.const t65) (.const t64) 3) 0 w fun t66 w =>
            boolK t66
              (opK Try.prog (.indexAddr 146 (.const t63) (.const t65)) 0 w fun t67 w =>
              ldn 2 t67 w fun t68 w =>
              opK Try.prog (.alloc 84) 0 w fun t9 w =>
              stn 2 t9 t68 w fun _ w =>
              opK Try.prog (.fieldAddr 84 (.const t9) 0) 0 w fun t69 w =>
              ld1 t69 w fun t70 w =>
              opK Try.prog (.binOp .neq 3 (.const t70) (.const (.int .i64 0)) 3) 4 w fun t71 w =>
              boolK t71
                (R (.returned (.int .i64 7)) w)
                (opK Try.prog (.binOp .add 3 (.const t65) (.const (.int .i64 1)) 3) 3 w fun t72 w =>
                N2 t72 w))
              (opK Try.prog (.nilCheck (.const t0)) 0 w fun t74 w =>
              opK Try.prog (.fieldAddr 148 (.const t74) 0) 0 w fun t75 w =>
              ld1 t75 w fun t76 w =>
              opK Try.prog (.range 145 (.const t76)) 0 w fun t77 w =>
              (loopK 0 (fun (N3 : World → Prop) (w : World) =>
                opK Try.prog (.next (.const t77) false) 0 w fun t78 w =>
                opK Try.prog (.extract (.const t78) 0) 4 w fun t79 w =>
                boolK t79
                  (opK Try.prog (.entry (.const t77)) 0 w fun t80 w =>
                  opK Try.prog (.extract (.const t80) 1) 152 w fun t81 w =>
                  stK Try.prog (.nilCheck (.const t81)) 0 w.drew fun t84 =>
                  stK Try.prog (.fieldAddr 154 (.const t84) 0) 0 w.drew fun t85 =>
                  ld1 t85 w.drew fun t86 _ =>
                  stK Try.prog (.nilCheck (.const t81)) 0 w.drew fun t88 =>
                  stK Try.prog (.fieldAddr 154 (.const t88) 1) 0 w.drew fun t89 =>
                  ld1 t89 w.drew fun t90 _ =>
                  stK Try.prog (.binOp .shl 3 (.const (.int .i64 1)) (.const t90) 3) 3 w.drew fun t91 =>
                  stK Try.prog (.binOp .add 3 (.const t86) (.const t91) 3) 3 w.drew fun t92 =>
                  stK Try.prog (.binOp .lss 3 (.const t5) (.const t92) 3) 4 w.drew fun t93 =>
                  gS t93 true (fun K => K t81) fun t95 =>
                  gS t93 true (fun K => stK Try.prog (.nilCheck (.const t95)) 0 w.drew K) fun t96 =>
                  gS t93 true (fun K => stK Try.prog (.fieldAddr 154 (.const t96) 0) 0 w.drew K) fun t97 =>
                  gS t93 true (fun K => ld1 t97 w.drew fun v _ => K v) fun t98 =>
                  gS t93 true (fun K => K t5) fun t99 =>
                  gS t93 true (fun K => K t39) fun t100 =>
                  gS t93 true (fun K => stK Try.prog (.binOp .add 3 (.const t99) (.const t100) 3) 3 w.drew K) fun t101 =>
                  gS t93 true (fun K => stK Try.prog (.binOp .lss 3 (.const t98) (.const t101) 3) 4 w.drew K) fun t102 =>
                  stK Try.prog (.pick (.const t93) (.const t102) (.const (.bool false))) 4 w.drew fun t103 =>
                  boolK t103
                    (R (.returned (.int .i64 7)) w.drew)
                    (N3 w.drew))
                  (opK Try.prog (.fieldAddr 84 (.const t3) 0) 0 w fun t104 w =>
                  ld1 t104 w fun t105 w =>
                  opK Try.prog (.binOp .neq 3 (.const t105) (.const (.int .i64 1)) 3) 4 w fun t106 w =>
                  boolK t106
                    (stK Try.prog (.nilCheck (.const t0)) 0 w.drew fun t108 =>
                    stK Try.prog (.fieldAddr 148 (.const t108) 1) 0 w.drew fun t109 =>
                    ld1 t109 w.drew fun t110 _ =>
                    ldn 2 t3 w.drew fun t112 _ =>
                    stK Try.prog (.indexAddr 146 (.const t110) (.const t5)) 0 w.drew fun t113 =>
                    stn 2 t113 t112 w.drew fun _ w =>
                    R (.returned (.int .i64 0)) w)
                    (stK Try.prog (.nilCheck (.const t0)) 0 w.drew fun t115 =>
                    stK Try.prog (.fieldAddr 148 (.const t115) 0) 0 w.drew fun t116 =>
                    ld1 t116 w.drew fun t117 _ =>
                    stK Try.prog (.fieldAddr 84 (.const t3) 1) 0 w.drew fun t118 =>
                    ld1 t118 w.drew fun t119 _ =>
                    stK Try.prog (.build 154 #[(0, (.const t5)), (1, (.const t6))]) 154 w.drew fun t122 =>
                    opK Try.prog (.box 154 (.const t122)) 152 w.drew fun t123 w =>
                    (ld1 t118 w fun v _ => v = t119) ∧
                    (stK Try.prog (.fieldAddr 84 (.const t3) 1) 0 w fun v => v = t118) ∧
                    (ld1 t116 w fun v _ => v = t117) ∧
                    (stK Try.prog (.fieldAddr 148 (.const t115) 0) 0 w fun v => v = t116) ∧
                    (stK Try.prog (.nilCheck (.const t0)) 0 w fun v => v = t115) ∧
                    opK Try.prog (.mapUpdate 145 (.const t117) (.const t119) (.const t123)) 0 w fun _ w =>
                    R (.returned (.int .i64 0)) w))) : World → Prop) w)) : Value → World → Prop) (.int .i64 0) w))))
def an27 : Ann := (.cut [0, 3] .no (.cut [0, 3] (.cut [0, 3, 19] .no (.two (.cut [4] .no .no) .no)) (.cut [0, 3, 5, 6] .no (.seq (some [5, 6]) (.cut [0, 3, 5, 6, 24] .no (.two .no .no)) (.cut [0, 3, 5, 6] (.cut [0, 3, 5, 6, 37] .no (.two (.cut [4] .no .no) .no)) (.cut [0, 3, 5, 6, 7] .no (.cut [0, 3, 5, 6, 7] (.cut [0, 3, 5, 6, 7, 54] .no (.two (.cut [4] .no .no) .no)) (.cut [0, 3, 5, 6, 7] (.cut [0, 3, 5, 6, 7, 63, 64, 65] .no (.one (.loop [65] (.cut [0, 3, 5, 6, 7, 63, 64, 65, 66] .no (.cut [0, 3, 5, 6, 7, 63, 64, 65] (.two .no .no) (.cut [0, 3, 5, 6, 7, 63, 64, 65] (.one (.cut [0, 3, 5, 6, 7, 9, 63, 64, 65] .no (.cut [0, 3, 5, 6, 7, 63, 64, 65, 71] .no (.two (.cut [4] .no .no) .no)))) .no)))))) (.cut [0, 3, 5, 6] (.cut [0, 3, 5, 6, 7, 77] .no (.one (.loop [] (.cut [0, 3, 5, 6, 7, 77, 79] .no (.cut [0, 3, 5, 6, 7, 77] (.two .no .no) (.one (.cut [0, 3, 5, 6, 7, 11, 77] .no (.cut [0, 3, 5, 6, 7, 77, 103] (.draw 22) (.two (.cut [4] .no .no) .no))))))))) (.cut [0, 3, 5, 6] (.cut [0, 3, 5, 6, 106] .no (.two (.cut [] (.draw 7) (.cut [4] .no .no)) .no)) (.cut [] (.tree none (.seg [0, 1, 2, 3, 4, 5, 6, 7, 8] (.eff 9 [8] (.seg [] (.eff 10 [1, 2, 3, 4, 5] (.seg [] .fin)))))) (.cut [4] .no .no))))))))))))
theorem vw27 (R : Ending → World → Prop) (t0 t1 : Value) (w : World) : W Try.prog Try.f27.ntmps (bodyOf Try.f27) an27 ⟨retK Try.prog Try.f27.results.toList fun v w => R (.returned v) w, retK Try.prog Try.f27.results.toList fun v w => R (.returned v) w, []⟩ (args0 0 [t0, t1]) w = vc27 R t0 t1 w := by kernel_rfl
theorem vk27 {R : Ending → World → Prop} {t0 t1 : Value} {w : World} (h : vc27 R t0 t1 w) : Calls Try.prog 27 #[t0, t1] w R :=
  calls_of_W mixed (fn := Try.f27) (c := bodyOf Try.f27) (by kernel_rfl) (by kernel_rfl) an27 (args := [t0, t1]) (by kernel_rfl) (by rw [vw27]; exact h)

/-- (*vault/pool.Pool).Give -/
def vc28 (R : Ending → World → Prop) (t0 t1 t2 t3 t4 : Value) (w : World) : Prop :=
  opK Try.prog (.binOp .lss 3 (.const t2) (.const (.int .i64 1)) 3) 4 w fun t19 w =>
  gK t19 false w (fun K => K t2 w) fun t21 w =>
  gK t19 false w (fun K => opK Try.prog (.binOp .gtr 3 (.const t21) (.const (.int .i64 8)) 3) 4 w K) fun t22 w =>
  opK Try.prog (.pick (.const t19) (.const (.bool true)) (.const t22)) 4 w fun t23 w =>
  boolK t23
    (R (.returned (.tuple #[(.slice none 0 0), (.int .i64 12)])) w)
    (opK Try.prog (.binOp .lss 3 (.const t3) (.const (.int .i64 0)) 3) 4 w fun t26 w =>
    gK t26 false w (fun K => K t3 w) fun t28 w =>
    gK t26 false w (fun K => opK Try.prog (.binOp .gtr 3 (.const t28) (.const (.int .i64 8)) 3) 4 w K) fun t29 w =>
    opK Try.prog (.pick (.const t26) (.const (.bool true)) (.const t29)) 4 w fun t30 w =>
    gK t30 false w (fun K => K t2 w) fun t32 w =>
    gK t30 false w (fun K => opK Try.prog (.binOp .neq 3 (.const t32) (.const (.int .i64 1)) 3) 4 w K) fun t33 w =>
    gK t30 false w (fun K => K t33 w) fun t34 w =>
    gK t34 true w (fun K => K t3 w) fun t35 w =>
    gK t34 true w (fun K => opK Try.prog (.binOp .neq 3 (.const t35) (.const (.int .i64 0)) 3) 4 w K) fun t36 w =>
    gK t30 false w (fun K => opK Try.prog (.pick (.const t34) (.const t36) (.const (.bool false))) 4 w K) fun t37 w =>
    opK Try.prog (.pick (.const t30) (.const (.bool true)) (.const t37)) 4 w fun t38 w =>
    gK t38 false w (fun K => K t4 w) fun t40 w =>
    gK t38 false w (fun K => opK Try.prog (.binOp .lss 3 (.const t40) (.const (.int .i64 1)) 3) 4 w K) fun t41 w =>
    opK Try.prog (.pick (.const t38) (.const (.bool true)) (.const t41)) 4 w fun t42 w =>
    gK t42 false w (fun K => K t4 w) fun t44 w =>
    gK t42 false w (fun K => opK Try.prog (.binOp .gtr 3 (.const t44) (.const (.int .i64 64)) 3) 4 w K) fun t45 w =>
    opK Try.prog (.pick (.const t42) (.const (.bool true)) (.const t45)) 4 w fun t46 w =>
    boolK t46
      (R (.returned (.tuple #[(.slice none 0 0), (.int .i64 1)])) w)
      (opK Try.prog (.nilCheck (.const t0)) 0 w fun t48 w =>
      opK Try.prog (.fieldAddr 148 (.const t48) 0) 0 w fun t49 w =>
      ld1 t49 w fun t50 w =>
      opK Try.prog (.lookup 145 (.const t50) (.const t1) false) 152 w fun t52 w =>
      opK Try.prog (.binOp .eql 152 (.const t52) (.const (.pointer none)) 152) 4 w fun t54 w =>
      boolK t54
        (R (.returned (.tuple #[(.slice none 0 0), (.int .i64 6)])) w)
        (opK Try.prog (.nilCheck (.const t52)) 0 w fun t56 w =>
        opK Try.prog (.fieldAddr 154 (.const t56) 2) 0 w fun t57 w =>
        ld1 t57 w fun t58 w =>
        joinK 1 (fun (M1 : Value → World → Prop) =>
          callK Try.prog 77 #[t0, t52] w fun t61 w =>
          boolK t61
            (M1 (.int .i64 0) w)
            (M1 t58 w))
          (fun (t13 : Value) (w : World) =>
          opK Try.prog (.binOp .shl 3 (.const (.int .i64 1)) (.const t3) 3) 3 w fun t63 w =>
          opK Try.prog (.binOp .add 3 (.const t13) (.const t63) 3) 3 w fun t66 w =>
          opK Try.prog (.binOp .sub 3 (.const t66) (.const (.int .i64 1)) 3) 3 w fun t67 w =>
          opK Try.prog (.binOp .quo 3 (.const t67) (.const t63) 3) 3 w fun t69 w =>
          opK Try.prog (.binOp .mul 3 (.const t69) (.const t63) 3) 3 w fun t71 w =>
          opK Try.prog (.nilCheck (.const t52)) 0 w fun t74 w =>
          opK Try.prog (.fieldAddr 154 (.const t74) 1) 0 w fun t75 w =>
          ld1 t75 w fun t76 w =>
          opK Try.prog (.binOp .geq 3 (.const t3) (.const t76) 3) 4 w fun t77 w =>
          gK t77 true w (fun K => K t2 w) fun t79 w =>
          gK t77 true w (fun K => opK Try.prog (.binOp .eql 3 (.const t79) (.const (.int .i64 1)) 3) 4 w K) fun t80 w =>
          opK Try.prog (.pick (.const t77) (.const t80) (.const (.bool false))) 4 w fun t81 w =>
          gK t81 false w (fun K => K t71 w) fun t83 w =>
          gK t81 false w (fun K => K t4 w) fun t84 w =>
          gK t81 false w (fun K => K t63 w) fun t85 w =>
          gK t81 false w (fun K => opK Try.prog (.binOp .mul 3 (.const t84) (.const t85) 3) 3 w K) fun t86 w =>
          gK t81 false w (fun K => opK Try.prog (.binOp .add 3 (.const t83) (.const t86) 3) 3 w K) fun t87 w =>
          gK t81 false w (fun K => K t52 w) fun t88 w =>
          gK t81 false w (fun K => opK Try.prog (.nilCheck (.const t88)) 0 w K) fun t89 w =>
          gK t81 false w (fun K => opK Try.prog (.fieldAddr 154 (.const t89) 1) 0 w K) fun t90 w =>
          gK t81 false w (fun K => ld1 t90 w K) fun t91 w =>
          gK t81 false w (fun K => opK Try.prog (.binOp .shl 3 (.const (.int .i64 1)) (.const t91) 3) 3 w K) fun t92 w =>
          gK t81 false w (fun K => opK Try.prog (.binOp .gtr 3 (.const t87) (.const t92) 3) 4 w K) fun t93 w =>
          opK Try.prog (.pick (.const t81) (.const (.bool true)) (.const t93)) 4 w fun t94 w =>
          boolK t94
            (R (.returned (.tuple #[(.slice none 0 0), (.int .i64 14)])) w)
            ((loopK 3 (fun (N2 : Value → Value → Value → World → Prop) (t13_1 : Value) (t15 : Value) (t96 : Value) (w : World) =>
              opK Try.prog (.binOp .lss 3 (.const t96) (.const t4) 3) 4 w fun t97 w =>
              boolK t97
                (opK Try.prog (.nilCheck (.const t52)) 0 w fun t100 w =>
                opK Try.prog (.fieldAddr 154 (.const t100) 0) 0 w fun t101 w =>
                ld1 t101 w fun t102 w =>
                opK Try.prog (.binOp .add 3 (.const t102) (.const t13_1) 3) 3 w fun t104 w =>
                opK Try.prog (.build 84 #[(0, (.const t2)), (1, (.const t104))]) 84 w fun t105 w =>
                opK Try.prog (.alloc 84) 0 w fun t16 w =>
                stn 2 t16 t105 w fun _ w =>
                joinK 0 (fun (M3 : World → Prop) =>
                  opK Try.prog (.binOp .eql 3 (.const t2) (.const (.int .i64 1)) 3) 4 w fun t107 w =>
                  boolK t107
                    (opK Try.prog (.fieldAddr 84 (.const t16) 1) 0 w fun t108 w =>
                    ld1 t108 w fun t109 w =>
                    opK Try.prog (.binOp .mul 3 (.const t3) (.const (.int .i64 256)) 3) 3 w fun t111 w =>
                    opK Try.prog (.binOp .add 3 (.const t109) (.const t111) 3) 3 w fun t112 w =>
                    opK Try.prog (.fieldAddr 84 (.const t16) 1) 0 w fun t113 w =>
                    st1 t113 t112 w fun _ w =>
                    stK Try.prog (.nilCheck (.const t0)) 0 w.drew fun t115 =>
                    stK Try.prog (.fieldAddr 148 (.const t115) 0) 0 w.drew fun t116 =>
                    ld1 t116 w.drew fun t117 _ =>
                    stK Try.prog (.fieldAddr 84 (.const t16) 1) 0 w.drew fun t118 =>
                    ld1 t118 w.drew fun t119 _ =>
                    stK Try.prog (.nilCheck (.const t52)) 0 w.drew fun t121 =>
                    stK Try.prog (.fieldAddr 154 (.const t121) 0) 0 w.drew fun t122 =>
                    ld1 t122 w.drew fun t123 _ =>
                    stK Try.prog (.binOp .add 3 (.const t123) (.const t13_1) 3) 3 w.drew fun t125 =>
                    stK Try.prog (.build 154 #[(0, (.const t125)), (1, (.const t3))]) 154 w.drew fun t127 =>
                    opK Try.prog (.box 154 (.const t127)) 152 w.drew fun t128 w =>
                    (stK Try.prog (.nilCheck (.const t52)) 0 w fun v => v = t121) ∧
                    (ld1 t118 w fun v _ => v = t119) ∧
                    (stK Try.prog (.fieldAddr 84 (.const t16) 1) 0 w fun v => v = t118) ∧
                    (ld1 t116 w fun v _ => v = t117) ∧
                    (stK Try.prog (.fieldAddr 148 (.const t115) 0) 0 w fun v => v = t116) ∧
                    (stK Try.prog (.nilCheck (.const t0)) 0 w fun v => v = t115) ∧
                    opK Try.prog (.mapUpdate 145 (.const t117) (.const t119) (.const t128)) 0 w fun _ w =>
                    M3 w)
                    (stK Try.prog (.nilCheck (.const t0)) 0 w.drew fun t130 =>
                    stK Try.prog (.fieldAddr 148 (.const t130) 1) 0 w.drew fun t131 =>
                    ld1 t131 w.drew fun t132 _ =>
                    stK Try.prog (.fieldAddr 84 (.const t16) 1) 0 w.drew fun t133 =>
                    ld1 t133 w.drew fun t134 _ =>
                    ldn 2 t16 w.drew fun t135 _ =>
                    stK Try.prog (.indexAddr 146 (.const t132) (.const t134)) 0 w.drew fun t136 =>
                    stn 2 t136 t135 w.drew fun _ w =>
                    M3 w))
                  (fun (w : World) =>
                  opK Try.prog (.fieldAddr 84 (.const t16) 1) 0 w fun t138 w =>
                  ld1 t138 w fun t139 w =>
                  opK Try.prog (.buildSlice 69 1 #[(0, (.const t139))]) 69 w fun t140 w =>
                  opK Try.prog (.call ⟨(.builtin .append), #[(.const t15), (.const t140)], #[69, 69]⟩) 69 w fun t141 w =>
                  opK Try.prog (.binOp .add 3 (.const t13_1) (.const t63) 3) 3 w fun t144 w =>
                  opK Try.prog (.binOp .add 3 (.const t96) (.const (.int .i64 1)) 3) 3 w fun t145 w =>
                  N2 t144 t141 t145 w))
                (opK Try.prog (.nilCheck (.const t52)) 0 w fun t148 w =>
                opK Try.prog (.fieldAddr 154 (.const t148) 2) 0 w fun t149 w =>
                st1 t149 t13_1 w fun _ w =>
                R (.returned (.tuple #[t15, (.int .i64 0)])) w)) : Value → Value → Value → World → Prop) t71 (.slice none 0 0) (.int .i64 0) w)))))
def an28 : Ann := (.cut [0, 1, 2, 3, 4] .no (.cut [0, 1, 2, 3, 4] (.one (.cut [0, 1, 2, 3, 4, 17] .no (.two (.cut [10, 11] .no .no) (.cut [0, 1, 2, 3, 4, 24] .no (.two (.cut [10, 11] .no .no) .no))))) (.cut [0, 2, 3, 4, 12] .no (.cut [0, 2, 3, 4, 12] (.cut [0, 2, 3, 4, 12, 54] .no (.two (.cut [10, 11] .no .no) .no)) (.cut [0, 2, 3, 4, 12, 13] .no (.seq (some [13]) (.cut [0, 2, 3, 4, 12, 13, 61] .no (.two .no .no)) (.cut [0, 2, 3, 4, 12, 13, 14] .no (.cut [0, 2, 3, 4, 12, 13, 14] .no (.cut [0, 2, 3, 4, 12, 13, 14] (.cut [0, 2, 3, 4, 12, 13, 14, 94] .no (.two (.cut [10, 11] .no .no) .no)) (.cut [0, 2, 3, 4, 12, 13, 14, 15] .no (.cut [12, 13, 15] (.cut [0, 2, 3, 12, 13, 14, 15, 95, 96] .no (.one (.loop [13, 15, 96] (.cut [0, 2, 3, 12, 13, 14, 15, 95, 96, 97] .no (.cut [0, 2, 3, 12, 13, 14, 15, 95, 96] (.two .no .no) (.cut [0, 2, 3, 12, 13, 14, 15, 95, 96] (.one (.cut [0, 2, 3, 12, 13, 14, 15, 16, 95, 96] .no (.seq (some []) (.cut [0, 2, 3, 12, 13, 14, 15, 16, 95, 96, 107] .no (.two (.cut [0, 2, 3, 12, 13, 14, 15, 16, 95, 96] .no (.tree none (.seg [0, 1, 2, 3, 4, 5, 6, 7, 8, 9, 10, 11, 12, 13] (.eff 14 [8, 9, 11, 13] (.seg [] (.eff 15 [1, 2, 3, 4, 5, 7] (.seg [] .fin))))))) (.draw 8))) (.cut [0, 2, 3, 12, 13, 14, 15, 95, 96] .no .no)))) .no)))))) (.cut [15] .no (.cut [10, 11] .no .no)))))))))))))
theorem vw28 (R : Ending → World → Prop) (t0 t1 t2 t3 t4 : Value) (w : World) : W Try.prog Try.f28.ntmps (bodyOf Try.f28) an28 ⟨retK Try.prog Try.f28.results.toList fun v w => R (.returned v) w, retK Try.prog Try.f28.results.toList fun v w => R (.returned v) w, []⟩ (args0 0 [t0, t1, t2, t3, t4]) w = vc28 R t0 t1 t2 t3 t4 w := by kernel_rfl
theorem vk28 {R : Ending → World → Prop} {t0 t1 t2 t3 t4 : Value} {w : World} (h : vc28 R t0 t1 t2 t3 t4 w) : Calls Try.prog 28 #[t0, t1, t2, t3, t4] w R :=
  calls_of_W mixed (fn := Try.f28) (c := bodyOf Try.f28) (by kernel_rfl) (by kernel_rfl) an28 (args := [t0, t1, t2, t3, t4]) (by kernel_rfl) (by rw [vw28]; exact h)

/-- vault/vaultlaw.lay -/
def vc29 (R : Ending → World → Prop) (t0 t1 t2 t3 : Value) (w : World) : Prop :=
  opK Try.prog (.box 50 (.const t3)) 0 w fun t7 w =>
  opK Try.prog (.fieldAddr 50 (.const t7) 0) 0 w fun t30 w =>
  ld1 t30 w fun t31 w =>
  opK Try.prog (.binOp .eql 3 (.const t31) (.const (.int .i64 1)) 3) 4 w fun t33 w =>
  boolK t33
    (opK Try.prog (.fieldAddr 50 (.const t7) 1) 0 w fun t35 w =>
    ld1 t35 w fun t36 w =>
    opK Try.prog (.fieldAddr 50 (.const t7) 2) 0 w fun t37 w =>
    ld1 t37 w fun t38 w =>
    callK Try.prog 78 #[t36, t38] w fun t39 w =>
    callK Try.prog 27 #[t0, t39] w fun t40 w =>
    opK Try.prog (.fieldAddr 50 (.const t7) 1) 0 w fun t42 w =>
    ld1 t42 w fun t43 w =>
    opK Try.prog (.fieldAddr 50 (.const t7) 2) 0 w fun t44 w =>
    ld1 t44 w fun t45 w =>
    callK Try.prog 78 #[t43, t45] w fun t46 w =>
    callK Try.prog 79 #[t1, t46] w fun t47 w =>
    opK Try.prog (.binOp .eql 28 (.const t40) (.const t47) 28) 4 w fun t50 w =>
    R (.returned t50) w)
    (opK Try.prog (.binOp .eql 3 (.const t31) (.const (.int .i64 2)) 3) 4 w fun t52 w =>
    boolK t52
      (opK Try.prog (.fieldAddr 50 (.const t7) 1) 0 w fun t54 w =>
      ld1 t54 w fun t55 w =>
      opK Try.prog (.fieldAddr 50 (.const t7) 2) 0 w fun t56 w =>
      ld1 t56 w fun t57 w =>
      callK Try.prog 78 #[t55, t57] w fun t58 w =>
      callK Try.prog 80 #[t0, t58] w fun t59 w =>
      opK Try.prog (.fieldAddr 50 (.const t7) 1) 0 w fun t61 w =>
      ld1 t61 w fun t62 w =>
      opK Try.prog (.fieldAddr 50 (.const t7) 2) 0 w fun t63 w =>
      ld1 t63 w fun t64 w =>
      callK Try.prog 78 #[t62, t64] w fun t65 w =>
      callK Try.prog 81 #[t1, t65] w fun t66 w =>
      opK Try.prog (.binOp .eql 28 (.const t59) (.const t66) 28) 4 w fun t69 w =>
      R (.returned t69) w)
      (opK Try.prog (.binOp .eql 3 (.const t31) (.const (.int .i64 3)) 3) 4 w fun t71 w =>
      boolK t71
        (opK Try.prog (.fieldAddr 50 (.const t7) 1) 0 w fun t74 w =>
        ld1 t74 w fun t75 w =>
        callK Try.prog 83 #[t75] w fun t76 w =>
        callK Try.prog 82 #[t0, t76] w fun t77 w =>
        opK Try.prog (.extract (.const t77) 0) 4 w fun t78 w =>
        opK Try.prog (.extract (.const t77) 1) 28 w fun t79 w =>
        opK Try.prog (.fieldAddr 50 (.const t7) 1) 0 w fun t82 w =>
        ld1 t82 w fun t83 w =>
        callK Try.prog 83 #[t83] w fun t84 w =>
        callK Try.prog 84 #[t1, t84] w fun t85 w =>
        opK Try.prog (.extract (.const t85) 0) 4 w fun t86 w =>
        opK Try.prog (.extract (.const t85) 1) 28 w fun t87 w =>
        opK Try.prog (.binOp .eql 4 (.const t78) (.const t86) 4) 4 w fun t90 w =>
        gK t90 true w (fun K => K t79 w) fun t92 w =>
        gK t90 true w (fun K => K t87 w) fun t93 w =>
        gK t90 true w (fun K => opK Try.prog (.binOp .eql 28 (.const t92) (.const t93) 28) 4 w K) fun t94 w =>
        opK Try.prog (.pick (.const t90) (.const t94) (.const (.bool false))) 4 w fun t95 w =>
        R (.returned t95) w)
        (opK Try.prog (.binOp .eql 3 (.const t31) (.const (.int .i64 4)) 3) 4 w fun t97 w =>
        boolK t97
          (opK Try.prog (.fieldAddr 50 (.const t7) 1) 0 w fun t100 w =>
          ld1 t100 w fun t101 w =>
          callK Try.prog 83 #[t101] w fun t102 w =>
          callK Try.prog 31 #[t0, t102] w fun t103 w =>
          opK Try.prog (.extract (.const t103) 0) 3 w fun t104 w =>
          opK Try.prog (.extract (.const t103) 1) 28 w fun t105 w =>
          opK Try.prog (.fieldAddr 50 (.const t7) 1) 0 w fun t108 w =>
          ld1 t108 w fun t109 w =>
          callK Try.prog 83 #[t109] w fun t110 w =>
          callK Try.prog 85 #[t1, t110] w fun t111 w =>
          opK Try.prog (.extract (.const t111) 0) 3 w fun t112 w =>
          opK Try.prog (.extract (.const t111) 1) 28 w fun t113 w =>
          opK Try.prog (.binOp .eql 3 (.const t104) (.const t112) 3) 4 w fun t116 w =>
          gK t116 true w (fun K => K t105 w) fun t118 w =>
          gK t116 true w (fun K => K t113 w) fun t119 w =>
          gK t116 true w (fun K => opK Try.prog (.binOp .eql 28 (.const t118) (.const t119) 28) 4 w K) fun t120 w =>
          opK Try.prog (.pick (.const t116) (.const t120) (.const (.bool false))) 4 w fun t121 w =>
          R (.returned t121) w)
          (opK Try.prog (.binOp .eql 3 (.const t31) (.const (.int .i64 5)) 3) 4 w fun t123 w =>
          boolK t123
            (opK Try.prog (.fieldAddr 50 (.const t7) 1) 0 w fun t126 w =>
            ld1 t126 w fun t127 w =>
            callK Try.prog 24 #[t127, (.int .i64 64)] w fun t128 w =>
            callK Try.prog 86 #[t0, t128] w fun t129 w =>
            opK Try.prog (.extract (.const t129) 0) 84 w fun t130 w =>
            opK Try.prog (.extract (.const t129) 1) 28 w fun t131 w =>
            opK Try.prog (.alloc 84) 0 w fun t21 w =>
            stn 2 t21 t130 w fun _ w =>
            opK Try.prog (.fieldAddr 50 (.const t7) 1) 0 w fun t134 w =>
            ld1 t134 w fun t135 w =>
            callK Try.prog 24 #[t135, (.int .i64 64)] w fun t136 w =>
            callK Try.prog 87 #[t1, t136] w fun t137 w =>
            opK Try.prog (.extract (.const t137) 0) 84 w fun t138 w =>
            opK Try.prog (.extract (.const t137) 1) 28 w fun t139 w =>
            opK Try.prog (.alloc 84) 0 w fun t23 w =>
            stn 2 t23 t138 w fun _ w =>
            ldn 2 t21 w fun t140 w =>
            ldn 2 t23 w fun t141 w =>
            opK Try.prog (.binOp .eql 84 (.const t140) (.const t141) 84) 4 w fun t142 w =>
            gK t142 true w (fun K => K t131 w) fun t144 w =>
            gK t142 true w (fun K => K t139 w) fun t145 w =>
            gK t142 true w (fun K => opK Try.prog (.binOp .eql 28 (.const t144) (.const t145) 28) 4 w K) fun t146 w =>
            opK Try.prog (.pick (.const t142) (.const t146) (.const (.bool false))) 4 w fun t147 w =>
            R (.returned t147) w)
            (opK Try.prog (.binOp .eql 3 (.const t31) (.const (.int .i64 6)) 3) 4 w fun t149 w =>
            boolK t149
              (stK Try.prog (.fieldAddr 50 (.const t7) 1) 0 w.drew fun t152 =>
              ld1 t152 w.drew fun t153 _ =>
              stK Try.prog (.fieldAddr 50 (.const t7) 2) 0 w.drew fun t155 =>
              ld1 t155 w.drew fun t156 _ =>
              stK Try.prog (.fieldAddr 50 (.const t7) 3) 0 w.drew fun t158 =>
              ld1 t158 w.drew fun t159 _ =>
              stK Try.prog (.fieldAddr 50 (.const t7) 4) 0 w.drew fun t161 =>
              ld1 t161 w.drew fun t162 _ =>
              callK Try.prog 83 #[t153] w.drew fun t154 w =>
              (ld1 t161 w fun v _ => v = t162) ∧
              (stK Try.prog (.fieldAddr 50 (.const t7) 4) 0 w fun v => v = t161) ∧
              (ld1 t158 w fun v _ => v = t159) ∧
              (stK Try.prog (.fieldAddr 50 (.const t7) 3) 0 w fun v => v = t158) ∧
              (ld1 t155 w fun v _ => v = t156) ∧
              (stK Try.prog (.fieldAddr 50 (.const t7) 2) 0 w fun v => v = t155) ∧
              stcK Try.prog 24 #[t156, (.int .i64 10)] w fun t157 =>
              stcK Try.prog 24 #[t159, (.int .i64 9)] w fun t160 =>
              stcK Try.prog 24 #[t162, (.int .i64 6)] w fun t163 =>
              callK Try.prog 28 #[t0, t154, t157, t160, t163] w fun t164 w =>
              stK Try.prog (.extract (.const t164) 0) 69 w fun t165 =>
              stK Try.prog (.extract (.const t164) 1) 28 w fun t166 =>
              stK Try.prog (.fieldAddr 50 (.const t7) 1) 0 w.drew fun t169 =>
              ld1 t169 w.drew fun t170 _ =>
              stK Try.prog (.fieldAddr 50 (.const t7) 2) 0 w.drew fun t172 =>
              ld1 t172 w.drew fun t173 _ =>
              stK Try.prog (.fieldAddr 50 (.const t7) 3) 0 w.drew fun t175 =>
              ld1 t175 w.drew fun t176 _ =>
              stK Try.prog (.fieldAddr 50 (.const t7) 4) 0 w.drew fun t178 =>
              ld1 t178 w.drew fun t179 _ =>
              callK Try.prog 83 #[t170] w.drew fun t171 w =>
              (ld1 t178 w fun v _ => v = t179) ∧
              (stK Try.prog (.fieldAddr 50 (.const t7) 4) 0 w fun v => v = t178) ∧
              (ld1 t175 w fun v _ => v = t176) ∧
              (stK Try.prog (.fieldAddr 50 (.const t7) 3) 0 w fun v => v = t175) ∧
              (ld1 t172 w fun v _ => v = t173) ∧
              (stK Try.prog (.fieldAddr 50 (.const t7) 2) 0 w fun v => v = t172) ∧
              stcK Try.prog 24 #[t173, (.int .i64 10)] w fun t174 =>
              stcK Try.prog 24 #[t176, (.int .i64 9)] w fun t177 =>
              stcK Try.prog 24 #[t179, (.int .i64 6)] w fun t180 =>
              callK Try.prog 88 #[t1, t171, t174, t177, t180] w fun t181 w =>
              stK Try.prog (.extract (.const t181) 0) 69 w fun t182 =>
              stK Try.prog (.extract (.const t181) 1) 28 w fun t183 =>
              callK Try.prog 50 #[t165, t182] w fun t186 w =>
              callK Try.prog 51 #[t2, t165] w fun t189 w =>
              gK t186 true w (fun K => K t166 w) fun t192 w =>
              gK t186 true w (fun K => K t183 w) fun t193 w =>
              gK t186 true w (fun K => opK Try.prog (.binOp .eql 28 (.const t192) (.const t193) 28) 4 w K) fun t194 w =>
              opK Try.prog (.pick (.const t186) (.const t194) (.const (.bool false))) 4 w fun t195 w =>
              R (.returned t195) w)
              (opK Try.prog (.binOp .eql 3 (.const t31) (.const (.int .i64 7)) 3) 4 w fun t197 w =>
              boolK t197
                (callK Try.prog 30 #[t0, t1, t2] w fun t201 w =>
                R (.returned t201) w)
                (R (.returned (.bool true)) w)))))))
def an29 : Ann := (.cut [0, 1, 2, 7] .no (.cut [] (.cut [0, 1, 2, 7, 31] .no (.one (.cut [0, 1, 2, 7, 31, 32] .no (.two (.cut [1, 7, 9] .no (.cut [9, 10] .no (.cut [8] .no .no))) (.cut [0, 1, 2, 7, 31, 51] .no (.two (.cut [1, 7, 11] .no (.cut [11, 12] .no (.cut [8] .no .no))) (.cut [0, 1, 2, 7, 31, 70] .no (.two (.cut [1, 7, 13, 14] .no (.cut [13, 14, 15, 16] .no (.cut [8] .no .no))) (.cut [0, 1, 2, 7, 31, 96] .no (.two (.cut [1, 7, 17, 18] .no (.cut [17, 18, 19, 20] .no (.cut [8] .no .no))) (.cut [0, 1, 2, 7, 31, 122] .no (.two (.cut [1, 7, 21, 22] .no (.cut [21, 22, 23, 24] .no (.cut [8] .no .no))) (.cut [0, 1, 2, 7, 31, 148] .no (.two (.cut [1, 2, 7, 25, 26] (.tree none (.seg [0, 1, 2, 4, 5, 7, 8, 10, 11] (.eff 3 [1, 2] (.seg [6, 9, 12] (.eff 13 [4, 5, 7, 8, 10, 11, 6, 9, 12] (.seg [14, 15, 16, 17, 18] .fin)))))) (.cut [2, 25, 26, 27, 28] (.tree none (.seg [0, 1, 2, 4, 5, 7, 8, 10, 11] (.eff 3 [1, 2] (.seg [6, 9, 12] (.eff 13 [4, 5, 7, 8, 10, 11, 6, 9, 12] (.seg [14, 15, 16, 17, 18] .fin)))))) (.cut [2, 25, 26, 28, 29] .no (.cut [26, 28, 29] .no (.cut [8] .no .no))))) (.cut [0, 1, 2, 196] .no (.two (.cut [8] .no .no) .no)))))))))))))))) (.cut [8] .no .no)))
theorem vw29 (R : Ending → World → Prop) (t0 t1 t2 t3 : Value) (w : World) : W Try.prog Try.f29.ntmps (bodyOf Try.f29) an29 ⟨retK Try.prog Try.f29.results.toList fun v w => R (.returned v) w, retK Try.prog Try.f29.results.toList fun v w => R (.returned v) w, []⟩ (args0 0 [t0, t1, t2, t3]) w = vc29 R t0 t1 t2 t3 w := by kernel_rfl
theorem vk29 {R : Ending → World → Prop} {t0 t1 t2 t3 : Value} {w : World} (h : vc29 R t0 t1 t2 t3 w) : Calls Try.prog 29 #[t0, t1, t2, t3] w R :=
  calls_of_W mixed (fn := Try.f29) (c := bodyOf Try.f29) (by kernel_rfl) (by kernel_rfl) an29 (args := [t0, t1, t2, t3]) (by kernel_rfl) (by rw [vw29]; exact h)

/-- vault/vaultlaw.objects -/
def vc30 (R : Ending → World → Prop) (t0 t1 t2 : Value) (w : World) : Prop :=
  callK Try.prog 89 #[t0] w fun t10 w =>
  callK Try.prog 91 #[t1] w fun t13 w =>
  callK Try.prog 90 #[t10, t13] w fun t14 w =>
  callK Try.prog 92 #[t2, t10] w fun t17 w =>
  R (.returned t14) w
def an30 : Ann := (.seq none .no (.seq none .no (.seq none .no (.seq none .no (.seq none .no .no)))))
theorem vw30 (R : Ending → World → Prop) (t0 t1 t2 : Value) (w : World) : W Try.prog Try.f30.ntmps (bodyOf Try.f30) an30 ⟨retK Try.prog Try.f30.results.toList fun v w => R (.returned v) w, retK Try.prog Try.f30.results.toList fun v w => R (.returned v) w, []⟩ (args0 0 [t0, t1, t2]) w = vc30 R t0 t1 t2 w := by kernel_rfl
theorem vk30 {R : Ending → World → Prop} {t0 t1 t2 : Value} {w : World} (h : vc30 R t0 t1 t2 w) : Calls Try.prog 30 #[t0, t1, t2] w R :=
  calls_of_W mixed (fn := Try.f30) (c := bodyOf Try.f30) (by kernel_rfl) (by kernel_rfl) an30 (args := [t0, t1, t2]) (by kernel_rfl) (by rw [vw30]; exact h)

/-- (*vault/pool.Pool).Mark -/
def vc31 (R : Ending → World → Prop) (t0 t1 : Value) (w : World) : Prop :=
  opK Try.prog (.nilCheck (.const t0)) 0 w fun t8 w =>
  opK Try.prog (.fieldAddr 148 (.const t8) 0) 0 w fun t9 w =>
  ld1 t9 w fun t10 w =>
  opK Try.prog (.lookup 145 (.const t10) (.const t1) false) 152 w fun t12 w =>
  opK Try.prog (.binOp .eql 152 (.const t12) (.const (.pointer none)) 152) 4 w fun t14 w =>
  boolK t14
    (R (.returned (.tuple #[(.int .i64 0), (.int .i64 6)])) w)
    (opK Try.prog (.nilCheck (.const t12)) 0 w fun t16 w =>
    opK Try.prog (.fieldAddr 154 (.const t16) 2) 0 w fun t17 w =>
    ld1 t17 w fun t18 w =>
    R (.returned (.tuple #[t18, (.int .i64 0)])) w)
def an31 : Ann := (.seq none .no (.seq none .no (.seq none (.seq none .no (.two (.seq none .no .no) .no)) (.seq none .no .no))))
theorem vw31 (R : Ending → World → Prop) (t0 t1 : Value) (w : World) : W Try.prog Try.f31.ntmps (bodyOf Try.f31) an31 ⟨retK Try.prog Try.f31.results.toList fun v w => R (.returned v) w, retK Try.prog Try.f31.results.toList fun v w => R (.returned v) w, []⟩ (args0 0 [t0, t1]) w = vc31 R t0 t1 w := by kernel_rfl
theorem vk31 {R : Ending → World → Prop} {t0 t1 : Value} {w : World} (h : vc31 R t0 t1 w) : Calls Try.prog 31 #[t0, t1] w R :=
  calls_of_W mixed (fn := Try.f31) (c := bodyOf Try.f31) (by kernel_rfl) (by kernel_rfl) an31 (args := [t0, t1]) (by kernel_rfl) (by rw [vw31]; exact h)

/-- vault/pool.Split -/
def vc76 (R : Ending → World → Prop) (t0 : Value) (w : World) : Prop :=
  opK Try.prog (.binOp .rem 3 (.const t0) (.const (.int .i64 256)) 3) 3 w fun t5 w =>
  opK Try.prog (.binOp .quo 3 (.const t0) (.const (.int .i64 256)) 3) 3 w fun t7 w =>
  R (.returned (.tuple #[t5, t7])) w
def an76 : Ann := (.seq none .no (.seq none .no .no))
theorem vw76 (R : Ending → World → Prop) (t0 : Value) (w : World) : W Try.prog Try.f76.ntmps (bodyOf Try.f76) an76 ⟨retK Try.prog Try.f76.results.toList fun v w => R (.returned v) w, retK Try.prog Try.f76.results.toList fun v w => R (.returned v) w, []⟩ (args0 0 [t0]) w = vc76 R t0 w := by kernel_rfl
theorem vk76 {R : Ending → World → Prop} {t0 : Value} {w : World} (h : vc76 R t0 w) : Calls Try.prog 76 #[t0] w R :=
  calls_of_W mixed (fn := Try.f76) (c := bodyOf Try.f76) (by kernel_rfl) (by kernel_rfl) an76 (args := [t0]) (by kernel_rfl) (by rw [vw76]; exact h)

/-- (*vault/pool.Pool).clear -/
def vc77 (R : Ending → World → Prop) (t0 t1 : Value) (w : World) : Prop :=
  stK Try.prog (.nilCheck (.const t0)) 0 w.drew fun t10 =>
  stK Try.prog (.fieldAddr 148 (.const t10) 1) 0 w.drew fun t11 =>
  ld1 t11 w.drew fun t12 _ =>
  stK Try.prog (.nilCheck (.const t1)) 0 w.drew fun t14 =>
  stK Try.prog (.fieldAddr 154 (.const t14) 0) 0 w.drew fun t15 =>
  ld1 t15 w.drew fun t16 _ =>
  stK Try.prog (.nilCheck (.const t1)) 0 w.drew fun t18 =>
  stK Try.prog (.fieldAddr 154 (.const t18) 0) 0 w.drew fun t19 =>
  ld1 t19 w.drew fun t20 _ =>
  stK Try.prog (.nilCheck (.const t1)) 0 w.drew fun t22 =>
  stK Try.prog (.fieldAddr 154 (.const t22) 1) 0 w.drew fun t23 =>
  ld1 t23 w.drew fun t24 _ =>
  stK Try.prog (.binOp .shl 3 (.const (.int .i64 1)) (.const t24) 3) 3 w.drew fun t25 =>
  stK Try.prog (.binOp .add 3 (.const t20) (.const t25) 3) 3 w.drew fun t26 =>
  stK Try.prog (.slice 146 (.const t12) (some (.const t16)) (some (.const t26)) none) 146 w.drew fun t27 =>
  stK Try.prog (.call ⟨(.builtin .len), #[(.const t27)], #[146]⟩) 3 w.drew fun t28 =>
  (loopK 1 (fun (N1 : Value → World → Prop) (t29 : Value) (w : World) =>
    opK Try.prog (.binOp .lss 3 (.const t29) (.const t28) 3) 0 w fun t30 w =>
    boolK t30
      (opK Try.prog (.indexAddr 146 (.const t27) (.const t29)) 0 w fun t31 w =>
      ldn 2 t31 w fun t32 w =>
      opK Try.prog (.alloc 84) 0 w fun t6 w =>
      stn 2 t6 t32 w fun _ w =>
      opK Try.prog (.fieldAddr 84 (.const t6) 0) 0 w fun t33 w =>
      ld1 t33 w fun t34 w =>
      opK Try.prog (.binOp .neq 3 (.const t34) (.const (.int .i64 0)) 3) 4 w fun t35 w =>
      boolK t35
        (R (.returned (.bool false)) w)
        (opK Try.prog (.binOp .add 3 (.const t29) (.const (.int .i64 1)) 3) 3 w fun t36 w =>
        N1 t36 w))
      (opK Try.prog (.nilCheck (.const t0)) 0 w fun t38 w =>
      opK Try.prog (.fieldAddr 148 (.const t38) 0) 0 w fun t39 w =>
      ld1 t39 w fun t40 w =>
      opK Try.prog (.range 145 (.const t40)) 0 w fun t41 w =>
      (loopK 0 (fun (N2 : World → Prop) (w : World) =>
        opK Try.prog (.next (.const t41) false) 0 w fun t42 w =>
        opK Try.prog (.extract (.const t42) 0) 4 w fun t43 w =>
        boolK t43
          (opK Try.prog (.entry (.const t41)) 0 w fun t44 w =>
          opK Try.prog (.extract (.const t44) 1) 152 w fun t45 w =>
          callK Try.prog 119 #[t1, t45] w fun t48 w =>
          boolK t48
            (R (.returned (.bool false)) w)
            (N2 w))
          (R (.returned (.bool true)) w)) : World → Prop) w)) : Value → World → Prop) (.int .i64 0) w.drew
def an77 : Ann := (.seq none .no (.seq none (.seq none (.draw 21) (.one (.loop [29] (.seq none .no (.seq none (.two .no .no) (.seq none (.one (.seq none .no (.seq none .no (.two (.seq none .no .no) .no)))) .no)))))) (.seq none (.seq none .no (.one (.loop [] (.seq none .no (.seq none (.two .no .no) (.one (.seq none .no (.seq none .no (.two (.seq none .no .no) .no))))))))) (.seq none .no .no))))
theorem vw77 (R : Ending → World → Prop) (t0 t1 : Value) (w : World) : W Try.prog Try.f77.ntmps (bodyOf Try.f77) an77 ⟨retK Try.prog Try.f77.results.toList fun v w => R (.returned v) w, retK Try.prog Try.f77.results.toList fun v w => R (.returned v) w, []⟩ (args0 0 [t0, t1]) w = vc77 R t0 t1 w := by kernel_rfl
theorem vk77 {R : Ending → World → Prop} {t0 t1 : Value} {w : World} (h : vc77 R t0 t1 w) : Calls Try.prog 77 #[t0, t1] w R :=
  calls_of_W mixed (fn := Try.f77) (c := bodyOf Try.f77) (by kernel_rfl) (by kernel_rfl) an77 (args := [t0, t1]) (by kernel_rfl) (by rw [vw77]; exact h)

/-- vault/vaultlaw.objectOf -/
def vc78 (R : Ending → World → Prop) (t0 t1 : Value) (w : World) : Prop :=
  opK Try.prog (.alloc 84) 0 w fun t4 w =>
  callK Try.prog 24 #[t0, (.int .i64 10)] w fun t7 w =>
  opK Try.prog (.binOp .eql 3 (.const t7) (.const (.int .i64 1)) 3) 4 w fun t9 w =>
  boolK t9
    (callK Try.prog 83 #[t1] w fun t11 w =>
    opK Try.prog (.build 84 #[(0, (.const (.int .i64 1))), (1, (.const t11))]) 84 w fun t12 w =>
    stn 2 t4 t12 w fun _ w =>
    resK Try.prog [(t4, some 84)] w (fun v w => R (.returned v) w))
    (callK Try.prog 24 #[t1, (.int .i64 40)] w fun t15 w =>
    opK Try.prog (.build 84 #[(0, (.const t7)), (1, (.const t15))]) 84 w fun t16 w =>
    stn 2 t4 t16 w fun _ w =>
    resK Try.prog [(t4, some 84)] w (fun v w => R (.returned v) w))
def an78 : Ann := (.seq none .no (.seq none .no (.seq none (.seq none .no (.two (.seq none .no .no) .no)) (.seq none .no .no))))
theorem vw78 (R : Ending → World → Prop) (t0 t1 : Value) (w : World) : W Try.prog Try.f78.ntmps (bodyOf Try.f78) an78 ⟨retK Try.prog Try.f78.results.toList fun v w => R (.returned v) w, retK Try.prog Try.f78.results.toList fun v w => R (.returned v) w, []⟩ (args0 0 [t0, t1]) w = vc78 R t0 t1 w := by kernel_rfl
theorem vk78 {R : Ending → World → Prop} {t0 t1 : Value} {w : World} (h : vc78 R t0 t1 w) : Calls Try.prog 78 #[t0, t1] w R :=
  calls_of_W mixed (fn := Try.f78) (c := bodyOf Try.f78) (by kernel_rfl) (by kernel_rfl) an78 (args := [t0, t1]) (by kernel_rfl) (by rw [vw78]; exact h)

/-- (*vault/vaultref.Pool).Add -/
def vc79 (R : Ending → World → Prop) (t0 t1 : Value) (w : World) : Prop :=
  opK Try.prog (.box 84 (.const t1)) 0 w fun t3 w =>
  opK Try.prog (.fieldAddr 84 (.const t3) 0) 0 w fun t15 w =>
  ld1 t15 w fun t16 w =>
  opK Try.prog (.binOp .lss 3 (.const t16) (.const (.int .i64 1)) 3) 4 w fun t17 w =>
  gK t17 false w (fun K => opK Try.prog (.fieldAddr 84 (.const t3) 0) 0 w K) fun t19 w =>
  gK t17 false w (fun K => ld1 t19 w K) fun t20 w =>
  gK t17 false w (fun K => opK Try.prog (.binOp .gtr 3 (.const t20) (.const (.int .i64 8)) 3) 4 w K) fun t21 w =>
  opK Try.prog (.pick (.const t17) (.const (.bool true)) (.const t21)) 4 w fun t22 w =>
  boolK t22
    (R (.returned (.int .i64 12)) w)
    (opK Try.prog (.fieldAddr 84 (.const t3) 1) 0 w fun t23 w =>
    ld1 t23 w fun t24 w =>
    opK Try.prog (.binOp .lss 3 (.const t24) (.const (.int .i64 0)) 3) 4 w fun t25 w =>
    gK t25 false w (fun K => opK Try.prog (.fieldAddr 84 (.const t3) 0) 0 w K) fun t27 w =>
    gK t25 false w (fun K => ld1 t27 w K) fun t28 w =>
    gK t25 false w (fun K => opK Try.prog (.binOp .eql 3 (.const t28) (.const (.int .i64 1)) 3) 4 w K) fun t29 w =>
    gK t25 false w (fun K => K t29 w) fun t30 w =>
    gK t30 true w (fun K => opK Try.prog (.fieldAddr 84 (.const t3) 1) 0 w K) fun t31 w =>
    gK t30 true w (fun K => ld1 t31 w K) fun t32 w =>
    gK t30 true w (fun K => opK Try.prog (.binOp .quo 3 (.const t32) (.const (.int .i64 256)) 3) 3 w K) fun t33 w =>
    gK t30 true w (fun K => opK Try.prog (.binOp .gtr 3 (.const t33) (.const (.int .i64 8)) 3) 4 w K) fun t34 w =>
    gK t25 false w (fun K => opK Try.prog (.pick (.const t30) (.const t34) (.const (.bool false))) 4 w K) fun t35 w =>
    opK Try.prog (.pick (.const t25) (.const (.bool true)) (.const t35)) 4 w fun t36 w =>
    boolK t36
      (R (.returned (.int .i64 1)) w)
      (ldn 2 t3 w fun t38 w =>
      callK Try.prog 120 #[t38] w fun t39 w =>
      opK Try.prog (.extract (.const t39) 0) 3 w fun t40 w =>
      opK Try.prog (.extract (.const t39) 1) 3 w fun t41 w =>
      opK Try.prog (.binOp .rem 3 (.const t40) (.const t41) 3) 3 w fun t44 w =>
      opK Try.prog (.binOp .neq 3 (.const t44) (.const (.int .i64 0)) 3) 4 w fun t45 w =>
      gK t45 false w (fun K => K t40 w) fun t47 w =>
      gK t45 false w (fun K => K t0 w) fun t48 w =>
      gK t45 false w (fun K => opK Try.prog (.nilCheck (.const t48)) 0 w K) fun t49 w =>
      gK t45 false w (fun K => opK Try.prog (.fieldAddr 151 (.const t49) 0) 0 w K) fun t50 w =>
      gK t45 false w (fun K => ld1 t50 w K) fun t51 w =>
      gK t45 false w (fun K => K t41 w) fun t52 w =>
      gK t45 false w (fun K => opK Try.prog (.binOp .sub 3 (.const t51) (.const t52) 3) 3 w K) fun t53 w =>
      gK t45 false w (fun K => opK Try.prog (.binOp .gtr 3 (.const t47) (.const t53) 3) 4 w K) fun t54 w =>
      opK Try.prog (.pick (.const t45) (.const (.bool true)) (.const t54)) 4 w fun t55 w =>
      boolK t55
        (R (.returned (.int .i64 1)) w)
        ((loopK 1 (fun (N1 : Value → World → Prop) (t7 : Value) (w : World) =>
          opK Try.prog (.nilCheck (.const t0)) 0 w fun t58 w =>
          opK Try.prog (.fieldAddr 151 (.const t58) 1) 0 w fun t59 w =>
          ld1 t59 w fun t60 w =>
          opK Try.prog (.call ⟨(.builtin .len), #[(.const t60)], #[146]⟩) 3 w fun t61 w =>
          opK Try.prog (.binOp .lss 3 (.const t7) (.const t61) 3) 4 w fun t62 w =>
          boolK t62
            (opK Try.prog (.nilCheck (.const t0)) 0 w fun t67 w =>
            opK Try.prog (.fieldAddr 151 (.const t67) 1) 0 w fun t68 w =>
            ld1 t68 w fun t69 w =>
            opK Try.prog (.indexAddr 146 (.const t69) (.const t7)) 0 w fun t71 w =>
            ldn 2 t71 w fun t72 w =>
            callK Try.prog 120 #[t72] w fun t73 w =>
            opK Try.prog (.extract (.const t73) 0) 3 w fun t74 w =>
            opK Try.prog (.extract (.const t73) 1) 3 w fun t75 w =>
            callK Try.prog 121 #[t40, t41, t74, t75] w fun t80 w =>
            boolK t80
              (R (.returned (.int .i64 7)) w)
              (opK Try.prog (.binOp .add 3 (.const t7) (.const (.int .i64 1)) 3) 3 w fun t64 w =>
              N1 t64 w))
            ((loopK 1 (fun (N2 : Value → World → Prop) (t11 : Value) (w : World) =>
              opK Try.prog (.nilCheck (.const t0)) 0 w fun t84 w =>
              opK Try.prog (.fieldAddr 151 (.const t84) 2) 0 w fun t85 w =>
              ld1 t85 w fun t86 w =>
              opK Try.prog (.call ⟨(.builtin .len), #[(.const t86)], #[149]⟩) 3 w fun t87 w =>
              opK Try.prog (.binOp .lss 3 (.const t11) (.const t87) 3) 4 w fun t88 w =>
              boolK t88
                (opK Try.prog (.nilCheck (.const t0)) 0 w fun t93 w =>
                opK Try.prog (.fieldAddr 151 (.const t93) 2) 0 w fun t94 w =>
                ld1 t94 w fun t95 w =>
                opK Try.prog (.indexAddr 149 (.const t95) (.const t11)) 0 w fun t97 w =>
                opK Try.prog (.fieldAddr 204 (.const t97) 0) 0 w fun t98 w =>
                ld1 t98 w fun t99 w =>
                opK Try.prog (.build 84 #[(0, (.const (.int .i64 1))), (1, (.const t99))]) 84 w fun t100 w =>
                callK Try.prog 120 #[t100] w fun t101 w =>
                opK Try.prog (.extract (.const t101) 0) 3 w fun t102 w =>
                opK Try.prog (.extract (.const t101) 1) 3 w fun t103 w =>
                callK Try.prog 121 #[t40, t41, t102, t103] w fun t108 w =>
                boolK t108
                  (R (.returned (.int .i64 7)) w)
                  (opK Try.prog (.binOp .add 3 (.const t11) (.const (.int .i64 1)) 3) 3 w fun t90 w =>
                  N2 t90 w))
                (opK Try.prog (.fieldAddr 84 (.const t3) 0) 0 w fun t110 w =>
                ld1 t110 w fun t111 w =>
                opK Try.prog (.binOp .eql 3 (.const t111) (.const (.int .i64 1)) 3) 4 w fun t112 w =>
                boolK t112
                  (stK Try.prog (.nilCheck (.const t0)) 0 w.drew fun t115 =>
                  stK Try.prog (.fieldAddr 151 (.const t115) 2) 0 w.drew fun t116 =>
                  ld1 t116 w.drew fun t117 _ =>
                  stK Try.prog (.fieldAddr 84 (.const t3) 1) 0 w.drew fun t118 =>
                  ld1 t118 w.drew fun t119 _ =>
                  stK Try.prog (.build 204 #[(0, (.const t119))]) 204 w.drew fun t120 =>
                  opK Try.prog (.buildSlice 149 1 #[(0, (.const t120))]) 149 w.drew fun t121 w =>
                  (ld1 t116 w fun v _ => v = t117) ∧
                  (stK Try.prog (.fieldAddr 151 (.const t115) 2) 0 w fun v => v = t116) ∧
                  (stK Try.prog (.nilCheck (.const t0)) 0 w fun v => v = t115) ∧
                  opK Try.prog (.call ⟨(.builtin .append), #[(.const t117), (.const t121)], #[149, 149]⟩) 149 w fun t122 w =>
                  stK Try.prog (.nilCheck (.const t0)) 0 w fun t123 =>
                  stK Try.prog (.fieldAddr 151 (.const t123) 2) 0 w fun t124 =>
                  st1 t124 t122 w fun _ w =>
                  R (.returned (.int .i64 0)) w)
                  (stK Try.prog (.nilCheck (.const t0)) 0 w.drew fun t127 =>
                  stK Try.prog (.fieldAddr 151 (.const t127) 1) 0 w.drew fun t128 =>
                  ld1 t128 w.drew fun t129 _ =>
                  ldn 2 t3 w.drew fun t130 _ =>
                  opK Try.prog (.buildSlice 146 1 #[(0, (.const t130))]) 146 w.drew fun t131 w =>
                  (ld1 t128 w fun v _ => v = t129) ∧
                  (stK Try.prog (.fieldAddr 151 (.const t127) 1) 0 w fun v => v = t128) ∧
                  (stK Try.prog (.nilCheck (.const t0)) 0 w fun v => v = t127) ∧
                  opK Try.prog (.call ⟨(.builtin .append), #[(.const t129), (.const t131)], #[146, 146]⟩) 146 w fun t132 w =>
                  stK Try.prog (.nilCheck (.const t0)) 0 w fun t133 =>
                  stK Try.prog (.fieldAddr 151 (.const t133) 1) 0 w fun t134 =>
                  st1 t134 t132 w fun _ w =>
                  R (.returned (.int .i64 0)) w))) : Value → World → Prop) (.int .i64 0) w)) : Value → World → Prop) (.int .i64 0) w)))
def an79 : Ann := (.cut [0, 3] .no (.cut [0, 3] (.cut [0, 3, 22] .no (.two (.cut [4] .no .no) .no)) (.cut [0, 3] (.cut [0, 3, 36] .no (.two (.cut [4] .no .no) .no)) (.cut [0, 3, 5, 6] .no (.cut [0, 3, 5, 6] (.cut [0, 3, 5, 6, 55] .no (.two (.cut [4] .no .no) .no)) (.cut [0, 3, 5, 6] (.cut [0, 3, 5, 6, 7] .no (.one (.loop [7] (.cut [0, 3, 5, 6, 7] (.cut [0, 3, 5, 6, 7, 62] .no (.two .no .no)) (.cut [0, 3, 5, 6, 7] (.one (.cut [0, 3, 5, 6, 7, 8, 9] .no (.cut [0, 3, 5, 6, 7, 10] .no (.cut [0, 3, 5, 6, 7, 81] .no (.two (.cut [4] .no .no) .no))))) .no))))) (.cut [0, 3] (.cut [0, 3, 5, 6, 11] .no (.one (.loop [11] (.cut [0, 3, 5, 6, 11] (.cut [0, 3, 5, 6, 11, 88] .no (.two .no .no)) (.cut [0, 3, 5, 6, 11] (.one (.cut [0, 3, 5, 6, 11, 12, 13] .no (.cut [0, 3, 5, 6, 11, 14] .no (.cut [0, 3, 5, 6, 11, 109] .no (.two (.cut [4] .no .no) .no))))) .no))))) (.cut [] (.cut [0, 3, 112] .no (.two (.tree none (.seg [0, 1, 2, 3, 4, 5, 6, 7] (.eff 8 [5, 6, 7] (.seg [] (.eff 9 [2, 3, 4] (.seg [10, 11] (.eff 12 [10, 11] (.seg [] .fin)))))))) (.tree none (.seg [0, 1, 2, 3, 4, 5] (.eff 6 [5] (.seg [] (.eff 7 [2, 3, 4] (.seg [8, 9] (.eff 10 [8, 9] (.seg [] .fin)))))))))) (.cut [4] .no .no)))))))))
theorem vw79 (R : Ending → World → Prop) (t0 t1 : Value) (w : World) : W Try.prog Try.f79.ntmps (bodyOf Try.f79) an79 ⟨retK Try.prog Try.f79.results.toList fun v w => R (.returned v) w, retK Try.prog Try.f79.results.toList fun v w => R (.returned v) w, []⟩ (args0 0 [t0, t1]) w = vc79 R t0 t1 w := by kernel_rfl
theorem vk79 {R : Ending → World → Prop} {t0 t1 : Value} {w : World} (h : vc79 R t0 t1 w) : Calls Try.prog 79 #[t0, t1] w R :=
  calls_of_W mixed (fn := Try.f79) (c := bodyOf Try.f79) (by kernel_rfl) (by kernel_rfl) an79 (args := [t0, t1]) (by kernel_rfl) (by rw [vw79]; exact h)

/-- (*vault/pool.Pool).Remove -/
def vc80 (R : Ending → World → Prop) (t0 t1 : Value) (w : World) : Prop :=
  opK Try.prog (.box 84 (.const t1)) 0 w fun t3 w =>
  opK Try.prog (.fieldAddr 84 (.const t3) 0) 0 w fun t6 w =>
  ld1 t6 w fun t7 w =>
  opK Try.prog (.binOp .eql 3 (.const t7) (.const (.int .i64 1)) 3) 4 w fun t8 w =>
  boolK t8
    (stK Try.prog (.nilCheck (.const t0)) 0 w.drew fun t10 =>
    stK Try.prog (.fieldAddr 148 (.const t10) 0) 0 w.drew fun t11 =>
    ld1 t11 w.drew fun t12 _ =>
    stK Try.prog (.fieldAddr 84 (.const t3) 1) 0 w.drew fun t13 =>
    ld1 t13 w.drew fun t14 _ =>
    stK Try.prog (.lookup 145 (.const t12) (.const t14) false) 152 w.drew fun t15 =>
    opK Try.prog (.binOp .eql 152 (.const t15) (.const (.pointer none)) 152) 4 w.drew fun t18 w =>
    boolK t18
      (R (.returned (.int .i64 6)) w)
      (callK Try.prog 77 #[t0, t15] w fun t22 w =>
      opK Try.prog (.unOp .not 4 (.const t22)) 4 w fun t23 w =>
      boolK t23
        (R (.returned (.int .i64 16)) w)
        (stK Try.prog (.nilCheck (.const t0)) 0 w.drew fun t25 =>
        stK Try.prog (.fieldAddr 148 (.const t25) 0) 0 w.drew fun t26 =>
        ld1 t26 w.drew fun t27 _ =>
        stK Try.prog (.fieldAddr 84 (.const t3) 1) 0 w.drew fun t28 =>
        ld1 t28 w.drew fun t29 _ =>
        opK Try.prog (.call ⟨(.builtin .delete), #[(.const t27), (.const t29)], #[145, 3]⟩) 0 w.drew fun _ w =>
        R (.returned (.int .i64 0)) w)))
    (stK Try.prog (.fieldAddr 84 (.const t3) 1) 0 w.drew fun t30 =>
    ld1 t30 w.drew fun t31 _ =>
    stK Try.prog (.binOp .lss 3 (.const t31) (.const (.int .i64 0)) 3) 4 w.drew fun t32 =>
    gS t32 false (fun K => stK Try.prog (.fieldAddr 84 (.const t3) 1) 0 w.drew K) fun t34 =>
    gS t32 false (fun K => ld1 t34 w.drew fun v _ => K v) fun t35 =>
    gS t32 false (fun K => K t0) fun t36 =>
    gS t32 false (fun K => stK Try.prog (.nilCheck (.const t36)) 0 w.drew K) fun t37 =>
    gS t32 false (fun K => stK Try.prog (.fieldAddr 148 (.const t37) 1) 0 w.drew K) fun t38 =>
    gS t32 false (fun K => ld1 t38 w.drew fun v _ => K v) fun t39 =>
    gS t32 false (fun K => stK Try.prog (.call ⟨(.builtin .len), #[(.const t39)], #[146]⟩) 3 w.drew K) fun t40 =>
    gS t32 false (fun K => stK Try.prog (.binOp .geq 3 (.const t35) (.const t40) 3) 4 w.drew K) fun t41 =>
    stK Try.prog (.pick (.const t32) (.const (.bool true)) (.const t41)) 4 w.drew fun t42 =>
    gS t42 false (fun K => K t0) fun t44 =>
    gS t42 false (fun K => stK Try.prog (.nilCheck (.const t44)) 0 w.drew K) fun t45 =>
    gS t42 false (fun K => stK Try.prog (.fieldAddr 148 (.const t45) 1) 0 w.drew K) fun t46 =>
    gS t42 false (fun K => ld1 t46 w.drew fun v _ => K v) fun t47 =>
    gS t42 false (fun K => stK Try.prog (.fieldAddr 84 (.const t3) 1) 0 w.drew K) fun t48 =>
    gS t42 false (fun K => ld1 t48 w.drew fun v _ => K v) fun t49 =>
    gS t42 false (fun K => stK Try.prog (.indexAddr 146 (.const t47) (.const t49)) 0 w.drew K) fun t50 =>
    gS t42 false (fun K => ldn 2 t50 w.drew fun v _ => K v) fun t51 =>
    gS t42 false (fun K => ldn 2 t3 w.drew fun v _ => K v) fun t52 =>
    gS t42 false (fun K => stK Try.prog (.binOp .neq 84 (.const t51) (.const t52) 84) 4 w.drew K) fun t53 =>
    stK Try.prog (.pick (.const t42) (.const (.bool true)) (.const t53)) 4 w.drew fun t54 =>
    gS t54 false (fun K => stK Try.prog (.fieldAddr 84 (.const t3) 0) 0 w.drew K) fun t56 =>
    gS t54 false (fun K => ld1 t56 w.drew fun v _ => K v) fun t57 =>
    gS t54 false (fun K => stK Try.prog (.binOp .eql 3 (.const t57) (.const (.int .i64 0)) 3) 4 w.drew K) fun t58 =>
    stK Try.prog (.pick (.const t54) (.const (.bool true)) (.const t58)) 4 w.drew fun t59 =>
    boolK t59
      (R (.returned (.int .i64 6)) w.drew)
      (stK Try.prog (.nilCheck (.const t0)) 0 w.drew.drew fun t61 =>
      stK Try.prog (.fieldAddr 148 (.const t61) 1) 0 w.drew.drew fun t62 =>
      ld1 t62 w.drew.drew fun t63 _ =>
      stK Try.prog (.fieldAddr 84 (.const t3) 1) 0 w.drew.drew fun t64 =>
      ld1 t64 w.drew.drew fun t65 _ =>
      stK Try.prog (.build 84 #[]) 84 w.drew.drew fun t66 =>
      stK Try.prog (.indexAddr 146 (.const t63) (.const t65)) 0 w.drew.drew fun t67 =>
      stn 2 t67 t66 w.drew.drew fun _ w =>
      R (.returned (.int .i64 0)) w))
def an80 : Ann := (.seq none .no (.seq none (.seq none .no (.two (.seq none (.draw 8) (.seq none (.one (.seq none .no (.two (.seq none .no .no) (.seq none .no (.two (.seq none .no .no) .no))))) (.seq none (.draw 6) (.seq none .no .no)))) .no)) (.seq none (.seq none (.draw 30) (.two (.seq none .no .no) .no)) (.seq none (.draw 8) (.seq none .no .no)))))
theorem vw80 (R : Ending → World → Prop) (t0 t1 : Value) (w : World) : W Try.prog Try.f80.ntmps (bodyOf Try.f80) an80 ⟨retK Try.prog Try.f80.results.toList fun v w => R (.returned v) w, retK Try.prog Try.f80.results.toList fun v w => R (.returned v) w, []⟩ (args0 0 [t0, t1]) w = vc80 R t0 t1 w := by kernel_rfl
theorem vk80 {R : Ending → World → Prop} {t0 t1 : Value} {w : World} (h : vc80 R t0 t1 w) : Calls Try.prog 80 #[t0, t1] w R :=
  calls_of_W mixed (fn := Try.f80) (c := bodyOf Try.f80) (by kernel_rfl) (by kernel_rfl) an80 (args := [t0, t1]) (by kernel_rfl) (by rw [vw80]; exact h)

/-- (*vault/vaultref.Pool).Remove -/
def vc81 (R : Ending → World → Prop) (t0 t1 : Value) (w : World) : Prop :=
  opK Try.prog (.box 84 (.const t1)) 0 w fun t3 w =>
  opK Try.prog (.fieldAddr 84 (.const t3) 0) 0 w fun t10 w =>
  ld1 t10 w fun t11 w =>
  opK Try.prog (.binOp .eql 3 (.const t11) (.const (.int .i64 1)) 3) 4 w fun t12 w =>
  boolK t12
    (opK Try.prog (.fieldAddr 84 (.const t3) 1) 0 w fun t14 w =>
    ld1 t14 w fun t15 w =>
    callK Try.prog 122 #[t0, t15] w fun t16 w =>
    opK Try.prog (.binOp .lss 3 (.const t16) (.const (.int .i64 0)) 3) 4 w fun t18 w =>
    boolK t18
      (R (.returned (.int .i64 6)) w)
      (opK Try.prog (.fieldAddr 84 (.const t3) 1) 0 w fun t20 w =>
      ld1 t20 w fun t21 w =>
      callK Try.prog 123 #[t0, t21] w fun t22 w =>
      boolK t22
        (R (.returned (.int .i64 16)) w)
        (opK Try.prog (.nilCheck (.const t0)) 0 w fun t26 w =>
        opK Try.prog (.fieldAddr 151 (.const t26) 2) 0 w fun t27 w =>
        ld1 t27 w fun t28 w =>
        opK Try.prog (.slice 149 (.const t28) none (some (.const t16)) none) 149 w fun t30 w =>
        opK Try.prog (.call ⟨(.builtin .append), #[(.const (.slice none 0 0)), (.const t30)], #[149, 149]⟩) 149 w fun t31 w =>
        opK Try.prog (.nilCheck (.const t0)) 0 w fun t35 w =>
        opK Try.prog (.fieldAddr 151 (.const t35) 2) 0 w fun t36 w =>
        ld1 t36 w fun t37 w =>
        opK Try.prog (.binOp .add 3 (.const t16) (.const (.int .i64 1)) 3) 3 w fun t39 w =>
        opK Try.prog (.slice 149 (.const t37) (some (.const t39)) none none) 149 w fun t40 w =>
        opK Try.prog (.call ⟨(.builtin .append), #[(.const t31), (.const t40)], #[149, 149]⟩) 149 w fun t41 w =>
        opK Try.prog (.nilCheck (.const t0)) 0 w fun t42 w =>
        opK Try.prog (.fieldAddr 151 (.const t42) 2) 0 w fun t43 w =>
        st1 t43 t41 w fun _ w =>
        R (.returned (.int .i64 0)) w)))
    ((loopK 2 (fun (N1 : Value → Value → World → Prop) (t8 : Value) (t9 : Value) (w : World) =>
      opK Try.prog (.nilCheck (.const t0)) 0 w fun t46 w =>
      opK Try.prog (.fieldAddr 151 (.const t46) 1) 0 w fun t47 w =>
      ld1 t47 w fun t48 w =>
      opK Try.prog (.call ⟨(.builtin .len), #[(.const t48)], #[146]⟩) 3 w fun t49 w =>
      opK Try.prog (.binOp .lss 3 (.const t9) (.const t49) 3) 4 w fun t50 w =>
      boolK t50
        (joinK 1 (fun (M2 : Value → World → Prop) =>
          stK Try.prog (.nilCheck (.const t0)) 0 w.drew fun t54 =>
          stK Try.prog (.fieldAddr 151 (.const t54) 1) 0 w.drew fun t55 =>
          ld1 t55 w.drew fun t56 _ =>
          stK Try.prog (.indexAddr 146 (.const t56) (.const t9)) 0 w.drew fun t58 =>
          ldn 2 t58 w.drew fun t59 _ =>
          ldn 2 t3 w.drew fun t60 _ =>
          stK Try.prog (.binOp .neq 84 (.const t59) (.const t60) 84) 4 w.drew fun t61 =>
          boolK t61
            (opK Try.prog (.nilCheck (.const t0)) 0 w.drew fun t64 w =>
            opK Try.prog (.fieldAddr 151 (.const t64) 1) 0 w fun t65 w =>
            ld1 t65 w fun t66 w =>
            opK Try.prog (.indexAddr 146 (.const t66) (.const t9)) 0 w fun t68 w =>
            ldn 2 t68 w fun t69 w =>
            opK Try.prog (.buildSlice 146 1 #[(0, (.const t69))]) 146 w fun t70 w =>
            opK Try.prog (.call ⟨(.builtin .append), #[(.const t8), (.const t70)], #[146, 146]⟩) 146 w fun t71 w =>
            M2 t71 w)
            (M2 t8 w.drew))
          (fun (t8_1 : Value) (w : World) =>
          opK Try.prog (.binOp .add 3 (.const t9) (.const (.int .i64 1)) 3) 3 w fun t52 w =>
          N1 t8_1 t52 w))
        (opK Try.prog (.call ⟨(.builtin .len), #[(.const t8)], #[146]⟩) 3 w fun t73 w =>
        opK Try.prog (.nilCheck (.const t0)) 0 w fun t75 w =>
        opK Try.prog (.fieldAddr 151 (.const t75) 1) 0 w fun t76 w =>
        ld1 t76 w fun t77 w =>
        opK Try.prog (.call ⟨(.builtin .len), #[(.const t77)], #[146]⟩) 3 w fun t78 w =>
        opK Try.prog (.binOp .eql 3 (.const t73) (.const t78) 3) 4 w fun t79 w =>
        boolK t79
          (R (.returned (.int .i64 6)) w)
          (opK Try.prog (.nilCheck (.const t0)) 0 w fun t82 w =>
          opK Try.prog (.fieldAddr 151 (.const t82) 1) 0 w fun t83 w =>
          st1 t83 t8 w fun _ w =>
          R (.returned (.int .i64 0)) w))) : Value → Value → World → Prop) (.slice none 0 0) (.int .i64 0) w)
def an81 : Ann := (.seq none .no (.seq none (.seq none .no (.two (.seq none .no (.seq none (.seq none .no (.two (.seq none .no .no) .no)) (.seq none .no (.seq none (.seq none .no (.two (.seq none .no .no) .no)) (.seq none .no (.seq none .no (.seq none .no (.seq none .no .no)))))))) .no)) (.seq none .no (.seq none (.seq none .no (.one (.loop [8, 9] (.seq none (.seq none .no (.two .no .no)) (.seq (some [8]) (.one (.seq none (.draw 9) (.two .no .no))) .no))))) (.seq none (.seq none .no (.two (.seq none .no .no) .no)) (.seq none .no (.seq none .no .no)))))))
theorem vw81 (R : Ending → World → Prop) (t0 t1 : Value) (w : World) : W Try.prog Try.f81.ntmps (bodyOf Try.f81) an81 ⟨retK Try.prog Try.f81.results.toList fun v w => R (.returned v) w, retK Try.prog Try.f81.results.toList fun v w => R (.returned v) w, []⟩ (args0 0 [t0, t1]) w = vc81 R t0 t1 w := by kernel_rfl
theorem vk81 {R : Ending → World → Prop} {t0 t1 : Value} {w : World} (h : vc81 R t0 t1 w) : Calls Try.prog 81 #[t0, t1] w R :=
  calls_of_W mixed (fn := Try.f81) (c := bodyOf Try.f81) (by kernel_rfl) (by kernel_rfl) an81 (args := [t0, t1]) (by kernel_rfl) (by rw [vw81]; exact h)

/-- (*vault/pool.Pool).Empty -/
def vc82 (R : Ending → World → Prop) (t0 t1 : Value) (w : World) : Prop :=
  opK Try.prog (.nilCheck (.const t0)) 0 w fun t8 w =>
  opK Try.prog (.fieldAddr 148 (.const t8) 0) 0 w fun t9 w =>
  ld1 t9 w fun t10 w =>
  opK Try.prog (.lookup 145 (.const t10) (.const t1) false) 152 w fun t12 w =>
  opK Try.prog (.binOp .eql 152 (.const t12) (.const (.pointer none)) 152) 4 w fun t14 w =>
  boolK t14
    (R (.returned (.tuple #[(.bool false), (.int .i64 6)])) w)
    (callK Try.prog 77 #[t0, t12] w fun t17 w =>
    R (.returned (.tuple #[t17, (.int .i64 0)])) w)
def an82 : Ann := (.seq none .no (.seq none .no (.seq none (.seq none .no (.two (.seq none .no .no) .no)) (.seq none .no .no))))
theorem vw82 (R : Ending → World → Prop) (t0 t1 : Value) (w : World) : W Try.prog Try.f82.ntmps (bodyOf Try.f82) an82 ⟨retK Try.prog Try.f82.results.toList fun v w => R (.returned v) w, retK Try.prog Try.f82.results.toList fun v w => R (.returned v) w, []⟩ (args0 0 [t0, t1]) w = vc82 R t0 t1 w := by kernel_rfl
theorem vk82 {R : Ending → World → Prop} {t0 t1 : Value} {w : World} (h : vc82 R t0 t1 w) : Calls Try.prog 82 #[t0, t1] w R :=
  calls_of_W mixed (fn := Try.f82) (c := bodyOf Try.f82) (by kernel_rfl) (by kernel_rfl) an82 (args := [t0, t1]) (by kernel_rfl) (by rw [vw82]; exact h)

/-- vault/vaultlaw.region -/
def vc83 (R : Ending → World → Prop) (t0 : Value) (w : World) : Prop :=
  opK Try.prog (.binOp .rem 3 (.const t0) (.const (.int .i64 29)) 3) 3 w fun t8 w =>
  opK Try.prog (.binOp .eql 3 (.const t8) (.const (.int .i64 28)) 3) 4 w fun t9 w =>
  boolK t9
    (R (.returned t0) w)
    (callK Try.prog 44 #[t0, (.int .i64 1048576)] w fun t12 w =>
    opK Try.prog (.binOp .rem 3 (.const t12) (.const (.int .i64 9)) 3) 3 w fun t14 w =>
    opK Try.prog (.buildSlice 69 9 #[(0, (.const (.int .i64 1))), (1, (.const (.int .i64 2))), (2, (.const (.int .i64 4))), (3, (.const (.int .i64 8))), (4, (.const (.int .i64 16))), (5, (.const (.int .i64 32))), (6, (.const (.int .i64 64))), (7, (.const (.int .i64 128))), (8, (.const (.int .i64 256)))]) 69 w fun t15 w =>
    opK Try.prog (.indexAddr 69 (.const t15) (.const t14)) 0 w fun t17 w =>
    ld1 t17 w fun t18 w =>
    opK Try.prog (.buildSlice 69 9 #[(0, (.const (.int .i64 64))), (1, (.const (.int .i64 32))), (2, (.const (.int .i64 16))), (3, (.const (.int .i64 8))), (4, (.const (.int .i64 4))), (5, (.const (.int .i64 2))), (6, (.const (.int .i64 4))), (7, (.const (.int .i64 2))), (8, (.const (.int .i64 1)))]) 69 w fun t19 w =>
    opK Try.prog (.indexAddr 69 (.const t19) (.const t14)) 0 w fun t21 w =>
    ld1 t21 w fun t22 w =>
    opK Try.prog (.binOp .mul 3 (.const t14) (.const (.int .i64 256)) 3) 3 w fun t24 w =>
    opK Try.prog (.binOp .quo 3 (.const t12) (.const (.int .i64 9)) 3) 3 w fun t26 w =>
    opK Try.prog (.binOp .rem 3 (.const t26) (.const t22) 3) 3 w fun t28 w =>
    opK Try.prog (.binOp .mul 3 (.const t28) (.const t18) 3) 3 w fun t30 w =>
    opK Try.prog (.binOp .add 3 (.const t24) (.const t30) 3) 3 w fun t31 w =>
    opK Try.prog (.binOp .quo 3 (.const t12) (.const (.int .i64 9999)) 3) 3 w fun t33 w =>
    opK Try.prog (.binOp .rem 3 (.const t33) (.const (.int .i64 4)) 3) 3 w fun t34 w =>
    opK Try.prog (.binOp .quo 3 (.const t34) (.const (.int .i64 3)) 3) 3 w fun t35 w =>
    opK Try.prog (.binOp .add 3 (.const t31) (.const t35) 3) 3 w fun t36 w =>
    R (.returned t36) w)
def an83 : Ann := (.seq none .no (.seq none (.seq none .no (.two (.seq none .no .no) .no)) (.seq none .no (.seq none .no (.seq none .no (.seq none .no (.seq none .no .no)))))))
theorem vw83 (R : Ending → World → Prop) (t0 : Value) (w : World) : W Try.prog Try.f83.ntmps (bodyOf Try.f83) an83 ⟨retK Try.prog Try.f83.results.toList fun v w => R (.returned v) w, retK Try.prog Try.f83.results.toList fun v w => R (.returned v) w, []⟩ (args0 0 [t0]) w = vc83 R t0 w := by kernel_rfl
theorem vk83 {R : Ending → World → Prop} {t0 : Value} {w : World} (h : vc83 R t0 w) : Calls Try.prog 83 #[t0] w R :=
  calls_of_W mixed (fn := Try.f83) (c := bodyOf Try.f83) (by kernel_rfl) (by kernel_rfl) an83 (args := [t0]) (by kernel_rfl) (by rw [vw83]; exact h)

/-- (*vault/vaultref.Pool).Empty -/
def vc84 (R : Ending → World → Prop) (t0 t1 : Value) (w : World) : Prop :=
  callK Try.prog 122 #[t0, t1] w fun t10 w =>
  opK Try.prog (.binOp .lss 3 (.const t10) (.const (.int .i64 0)) 3) 4 w fun t12 w =>
  boolK t12
    (R (.returned (.tuple #[(.bool false), (.int .i64 6)])) w)
    (callK Try.prog 123 #[t0, t1] w fun t15 w =>
    opK Try.prog (.unOp .not 4 (.const t15)) 4 w fun t17 w =>
    R (.returned (.tuple #[t17, (.int .i64 0)])) w)
def an84 : Ann := (.seq none .no (.seq none .no (.seq none (.seq none .no (.two (.seq none .no .no) .no)) (.seq none .no (.seq none .no .no)))))
theorem vw84 (R : Ending → World → Prop) (t0 t1 : Value) (w : World) : W Try.prog Try.f84.ntmps (bodyOf Try.f84) an84 ⟨retK Try.prog Try.f84.results.toList fun v w => R (.returned v) w, retK Try.prog Try.f84.results.toList fun v w => R (.returned v) w, []⟩ (args0 0 [t0, t1]) w = vc84 R t0 t1 w := by kernel_rfl
theorem vk84 {R : Ending → World → Prop} {t0 t1 : Value} {w : World} (h : vc84 R t0 t1 w) : Calls Try.prog 84 #[t0, t1] w R :=
  calls_of_W mixed (fn := Try.f84) (c := bodyOf Try.f84) (by kernel_rfl) (by kernel_rfl) an84 (args := [t0, t1]) (by kernel_rfl) (by rw [vw84]; exact h)

/-- (*vault/vaultref.Pool).Mark -/
def vc85 (R : Ending → World → Prop) (t0 t1 : Value) (w : World) : Prop :=
  callK Try.prog 122 #[t0, t1] w fun t9 w =>
  opK Try.prog (.binOp .lss 3 (.const t9) (.const (.int .i64 0)) 3) 4 w fun t11 w =>
  boolK t11
    (R (.returned (.tuple #[(.int .i64 0), (.int .i64 6)])) w)
    (opK Try.prog (.nilCheck (.const t0)) 0 w fun t13 w =>
    opK Try.prog (.fieldAddr 151 (.const t13) 2) 0 w fun t14 w =>
    ld1 t14 w fun t15 w =>
    opK Try.prog (.indexAddr 149 (.const t15) (.const t9)) 0 w fun t17 w =>
    opK Try.prog (.fieldAddr 204 (.const t17) 1) 0 w fun t18 w =>
    ld1 t18 w fun t19 w =>
    R (.returned (.tuple #[t19, (.int .i64 0)])) w)
def an85 : Ann := (.seq none .no (.seq none .no (.seq none (.seq none .no (.two (.seq none .no .no) .no)) (.seq none .no .no))))
theorem vw85 (R : Ending → World → Prop) (t0 t1 : Value) (w : World) : W Try.prog Try.f85.ntmps (bodyOf Try.f85) an85 ⟨retK Try.prog Try.f85.results.toList fun v w => R (.returned v) w, retK Try.prog Try.f85.results.toList fun v w => R (.returned v) w, []⟩ (args0 0 [t0, t1]) w = vc85 R t0 t1 w := by kernel_rfl
theorem vk85 {R : Ending → World → Prop} {t0 t1 : Value} {w : World} (h : vc85 R t0 t1 w) : Calls Try.prog 85 #[t0, t1] w R :=
  calls_of_W mixed (fn := Try.f85) (c := bodyOf Try.f85) (by kernel_rfl) (by kernel_rfl) an85 (args := [t0, t1]) (by kernel_rfl) (by rw [vw85]; exact h)

/-- (*vault/pool.Pool).At -/
def vc86 (R : Ending → World → Prop) (t0 t1 : Value) (w : World) : Prop :=
  opK Try.prog (.alloc 84) 0 w fun t4 w =>
  opK Try.prog (.binOp .lss 3 (.const t1) (.const (.int .i64 0)) 3) 4 w fun t7 w =>
  gK t7 false w (fun K => K t1 w) fun t9 w =>
  gK t7 false w (fun K => K t0 w) fun t10 w =>
  gK t7 false w (fun K => opK Try.prog (.nilCheck (.const t10)) 0 w K) fun t11 w =>
  gK t7 false w (fun K => opK Try.prog (.fieldAddr 148 (.const t11) 1) 0 w K) fun t12 w =>
  gK t7 false w (fun K => ld1 t12 w K) fun t13 w =>
  gK t7 false w (fun K => opK Try.prog (.call ⟨(.builtin .len), #[(.const t13)], #[146]⟩) 3 w K) fun t14 w =>
  gK t7 false w (fun K => opK Try.prog (.binOp .geq 3 (.const t9) (.const t14) 3) 4 w K) fun t15 w =>
  opK Try.prog (.pick (.const t7) (.const (.bool true)) (.const t15)) 4 w fun t16 w =>
  boolK t16
    (opK Try.prog (.build 84 #[]) 84 w fun t17 w =>
    stn 2 t4 t17 w fun _ w =>
    resK Try.prog [(t4, some 84), ((.int .i64 1), none)] w (fun v w => R (.returned v) w))
    (opK Try.prog (.nilCheck (.const t0)) 0 w fun t19 w =>
    opK Try.prog (.fieldAddr 148 (.const t19) 1) 0 w fun t20 w =>
    ld1 t20 w fun t21 w =>
    opK Try.prog (.indexAddr 146 (.const t21) (.const t1)) 0 w fun t23 w =>
    ldn 2 t23 w fun t24 w =>
    stn 2 t4 t24 w fun _ w =>
    resK Try.prog [(t4, some 84), ((.int .i64 0), none)] w (fun v w => R (.returned v) w))
def an86 : Ann := (.seq none .no (.seq none (.seq none .no (.two (.seq none .no .no) .no)) (.seq none .no .no)))
theorem vw86 (R : Ending → World → Prop) (t0 t1 : Value) (w : World) : W Try.prog Try.f86.ntmps (bodyOf Try.f86) an86 ⟨retK Try.prog Try.f86.results.toList fun v w => R (.returned v) w, retK Try.prog Try.f86.results.toList fun v w => R (.returned v) w, []⟩ (args0 0 [t0, t1]) w = vc86 R t0 t1 w := by kernel_rfl
theorem vk86 {R : Ending → World → Prop} {t0 t1 : Value} {w : World} (h : vc86 R t0 t1 w) : Calls Try.prog 86 #[t0, t1] w R :=
  calls_of_W mixed (fn := Try.f86) (c := bodyOf Try.f86) (by kernel_rfl) (by kernel_rfl) an86 (args := [t0, t1]) (by kernel_rfl) (by rw [vw86]; exact h)

/-- (*vault/vaultref.Pool).At -/
def vc87 (R : Ending → World → Prop) (t0 t1 : Value) (w : World) : Prop :=
  opK Try.prog (.alloc 84) 0 w fun t4 w =>
  opK Try.prog (.binOp .lss 3 (.const t1) (.const (.int .i64 0)) 3) 4 w fun t8 w =>
  gK t8 false w (fun K => K t1 w) fun t10 w =>
  gK t8 false w (fun K => K t0 w) fun t11 w =>
  gK t8 false w (fun K => opK Try.prog (.nilCheck (.const t11)) 0 w K) fun t12 w =>
  gK t8 false w (fun K => opK Try.prog (.fieldAddr 151 (.const t12) 0) 0 w K) fun t13 w =>
  gK t8 false w (fun K => ld1 t13 w K) fun t14 w =>
  gK t8 false w (fun K => opK Try.prog (.binOp .geq 3 (.const t10) (.const t14) 3) 4 w K) fun t15 w =>
  opK Try.prog (.pick (.const t8) (.const (.bool true)) (.const t15)) 4 w fun t16 w =>
  boolK t16
    (opK Try.prog (.build 84 #[]) 84 w fun t17 w =>
    stn 2 t4 t17 w fun _ w =>
    resK Try.prog [(t4, some 84), ((.int .i64 1), none)] w (fun v w => R (.returned v) w))
    ((loopK 1 (fun (N1 : Value → World → Prop) (t6 : Value) (w : World) =>
      opK Try.prog (.nilCheck (.const t0)) 0 w fun t20 w =>
      opK Try.prog (.fieldAddr 151 (.const t20) 1) 0 w fun t21 w =>
      ld1 t21 w fun t22 w =>
      opK Try.prog (.call ⟨(.builtin .len), #[(.const t22)], #[146]⟩) 3 w fun t23 w =>
      opK Try.prog (.binOp .lss 3 (.const t6) (.const t23) 3) 4 w fun t24 w =>
      boolK t24
        (opK Try.prog (.nilCheck (.const t0)) 0 w fun t28 w =>
        opK Try.prog (.fieldAddr 151 (.const t28) 1) 0 w fun t29 w =>
        ld1 t29 w fun t30 w =>
        opK Try.prog (.indexAddr 146 (.const t30) (.const t6)) 0 w fun t32 w =>
        opK Try.prog (.fieldAddr 84 (.const t32) 1) 0 w fun t33 w =>
        ld1 t33 w fun t34 w =>
        opK Try.prog (.binOp .eql 3 (.const t34) (.const t1) 3) 4 w fun t36 w =>
        boolK t36
          (opK Try.prog (.nilCheck (.const t0)) 0 w fun t38 w =>
          opK Try.prog (.fieldAddr 151 (.const t38) 1) 0 w fun t39 w =>
          ld1 t39 w fun t40 w =>
          opK Try.prog (.indexAddr 146 (.const t40) (.const t6)) 0 w fun t42 w =>
          ldn 2 t42 w fun t43 w =>
          stn 2 t4 t43 w fun _ w =>
          resK Try.prog [(t4, some 84), ((.int .i64 0), none)] w (fun v w => R (.returned v) w))
          (opK Try.prog (.binOp .add 3 (.const t6) (.const (.int .i64 1)) 3) 3 w fun t26 w =>
          N1 t26 w))
        (opK Try.prog (.build 84 #[]) 84 w fun t44 w =>
        stn 2 t4 t44 w fun _ w =>
        resK Try.prog [(t4, some 84), ((.int .i64 0), none)] w (fun v w => R (.returned v) w))) : Value → World → Prop) (.int .i64 0) w)
def an87 : Ann := (.seq none .no (.seq none (.seq none .no (.two (.seq none .no .no) .no)) (.seq none (.seq none .no (.one (.loop [6] (.seq none (.seq none .no (.two .no .no)) (.seq none (.one (.seq none .no (.two (.seq none .no .no) .no))) .no))))) (.seq none .no .no))))
theorem vw87 (R : Ending → World → Prop) (t0 t1 : Value) (w : World) : W Try.prog Try.f87.ntmps (bodyOf Try.f87) an87 ⟨retK Try.prog Try.f87.results.toList fun v w => R (.returned v) w, retK Try.prog Try.f87.results.toList fun v w => R (.returned v) w, []⟩ (args0 0 [t0, t1]) w = vc87 R t0 t1 w := by kernel_rfl
theorem vk87 {R : Ending → World → Prop} {t0 t1 : Value} {w : World} (h : vc87 R t0 t1 w) : Calls Try.prog 87 #[t0, t1] w R :=
  calls_of_W mixed (fn := Try.f87) (c := bodyOf Try.f87) (by kernel_rfl) (by kernel_rfl) an87 (args := [t0, t1]) (by kernel_rfl) (by rw [vw87]; exact h)

/-- (*vault/vaultref.Pool).Give -/
def vc88 (R : Ending → World → Prop) (t0 t1 t2 t3 t4 : Value) (w : World) : Prop :=
  opK Try.prog (.binOp .lss 3 (.const t2) (.const (.int .i64 1)) 3) 4 w fun t23 w =>
  gK t23 false w (fun K => K t2 w) fun t25 w =>
  gK t23 false w (fun K => opK Try.prog (.binOp .gtr 3 (.const t25) (.const (.int .i64 8)) 3) 4 w K) fun t26 w =>
  opK Try.prog (.pick (.const t23) (.const (.bool true)) (.const t26)) 4 w fun t27 w =>
  boolK t27
    (R (.returned (.tuple #[(.slice none 0 0), (.int .i64 12)])) w)
    (opK Try.prog (.binOp .lss 3 (.const t3) (.const (.int .i64 0)) 3) 4 w fun t29 w =>
    gK t29 false w (fun K => K t3 w) fun t31 w =>
    gK t29 false w (fun K => opK Try.prog (.binOp .gtr 3 (.const t31) (.const (.int .i64 8)) 3) 4 w K) fun t32 w =>
    opK Try.prog (.pick (.const t29) (.const (.bool true)) (.const t32)) 4 w fun t33 w =>
    gK t33 false w (fun K => K t2 w) fun t35 w =>
    gK t33 false w (fun K => opK Try.prog (.binOp .neq 3 (.const t35) (.const (.int .i64 1)) 3) 4 w K) fun t36 w =>
    gK t33 false w (fun K => K t36 w) fun t37 w =>
    gK t37 true w (fun K => K t3 w) fun t38 w =>
    gK t37 true w (fun K => opK Try.prog (.binOp .neq 3 (.const t38) (.const (.int .i64 0)) 3) 4 w K) fun t39 w =>
    gK t33 false w (fun K => opK Try.prog (.pick (.const t37) (.const t39) (.const (.bool false))) 4 w K) fun t40 w =>
    opK Try.prog (.pick (.const t33) (.const (.bool true)) (.const t40)) 4 w fun t41 w =>
    gK t41 false w (fun K => K t4 w) fun t43 w =>
    gK t41 false w (fun K => opK Try.prog (.binOp .lss 3 (.const t43) (.const (.int .i64 1)) 3) 4 w K) fun t44 w =>
    opK Try.prog (.pick (.const t41) (.const (.bool true)) (.const t44)) 4 w fun t45 w =>
    gK t45 false w (fun K => K t4 w) fun t47 w =>
    gK t45 false w (fun K => opK Try.prog (.binOp .gtr 3 (.const t47) (.const (.int .i64 64)) 3) 4 w K) fun t48 w =>
    opK Try.prog (.pick (.const t45) (.const (.bool true)) (.const t48)) 4 w fun t49 w =>
    boolK t49
      (R (.returned (.tuple #[(.slice none 0 0), (.int .i64 1)])) w)
      (callK Try.prog 122 #[t0, t1] w fun t52 w =>
      opK Try.prog (.binOp .lss 3 (.const t52) (.const (.int .i64 0)) 3) 4 w fun t54 w =>
      boolK t54
        (R (.returned (.tuple #[(.slice none 0 0), (.int .i64 6)])) w)
        (opK Try.prog (.build 84 #[(0, (.const (.int .i64 1))), (1, (.const t1))]) 84 w fun t57 w =>
        callK Try.prog 120 #[t57] w fun t58 w =>
        opK Try.prog (.extract (.const t58) 0) 3 w fun t59 w =>
        opK Try.prog (.extract (.const t58) 1) 3 w fun t60 w =>
        opK Try.prog (.binOp .mul 3 (.const (.int .i64 256)) (.const t3) 3) 3 w fun t63 w =>
        opK Try.prog (.build 84 #[(0, (.const (.int .i64 1))), (1, (.const t63))]) 84 w fun t64 w =>
        callK Try.prog 120 #[t64] w fun t65 w =>
        opK Try.prog (.extract (.const t65) 0) 3 w fun t66 w =>
        opK Try.prog (.extract (.const t65) 1) 3 w fun t67 w =>
        opK Try.prog (.nilCheck (.const t0)) 0 w fun t69 w =>
        opK Try.prog (.fieldAddr 151 (.const t69) 2) 0 w fun t70 w =>
        ld1 t70 w fun t71 w =>
        opK Try.prog (.indexAddr 149 (.const t71) (.const t52)) 0 w fun t73 w =>
        opK Try.prog (.fieldAddr 204 (.const t73) 1) 0 w fun t74 w =>
        ld1 t74 w fun t75 w =>
        callK Try.prog 123 #[t0, t1] w fun t78 w =>
        joinK 1 (fun (M1 : Value → World → Prop) =>
          opK Try.prog (.unOp .not 4 (.const t78)) 4 w fun t80 w =>
          boolK t80
            (M1 (.int .i64 0) w)
            (M1 t75 w))
          (fun (t17 : Value) (w : World) =>
          (loopK 1 (fun (N2 : Value → World → Prop) (t17_1 : Value) (w : World) =>
            opK Try.prog (.binOp .rem 3 (.const t17_1) (.const t67) 3) 3 w fun t83 w =>
            opK Try.prog (.binOp .neq 3 (.const t83) (.const (.int .i64 0)) 3) 4 w fun t84 w =>
            boolK t84
              (opK Try.prog (.binOp .add 3 (.const t17_1) (.const (.int .i64 1)) 3) 3 w fun t86 w =>
              N2 t86 w)
              (opK Try.prog (.binOp .eql 3 (.const t2) (.const (.int .i64 1)) 3) 4 w fun t88 w =>
              gK t88 true w (fun K => K t67 w) fun t90 w =>
              gK t88 true w (fun K => K t60 w) fun t91 w =>
              gK t88 true w (fun K => opK Try.prog (.binOp .geq 3 (.const t90) (.const t91) 3) 4 w K) fun t92 w =>
              opK Try.prog (.pick (.const t88) (.const t92) (.const (.bool false))) 4 w fun t93 w =>
              gK t93 false w (fun K => K t17_1 w) fun t95 w =>
              gK t93 false w (fun K => K t4 w) fun t96 w =>
              gK t93 false w (fun K => K t67 w) fun t97 w =>
              gK t93 false w (fun K => opK Try.prog (.binOp .mul 3 (.const t96) (.const t97) 3) 3 w K) fun t98 w =>
              gK t93 false w (fun K => opK Try.prog (.binOp .add 3 (.const t95) (.const t98) 3) 3 w K) fun t99 w =>
              gK t93 false w (fun K => K t60 w) fun t100 w =>
              gK t93 false w (fun K => opK Try.prog (.binOp .gtr 3 (.const t99) (.const t100) 3) 4 w K) fun t101 w =>
              opK Try.prog (.pick (.const t93) (.const (.bool true)) (.const t101)) 4 w fun t102 w =>
              boolK t102
                (R (.returned (.tuple #[(.slice none 0 0), (.int .i64 14)])) w)
                ((loopK 3 (fun (N3 : Value → Value → Value → World → Prop) (t17_2 : Value) (t19 : Value) (t20 : Value) (w : World) =>
                  opK Try.prog (.binOp .lss 3 (.const t20) (.const t4) 3) 4 w fun t105 w =>
                  boolK t105
                    (opK Try.prog (.binOp .add 3 (.const t59) (.const t17_2) 3) 3 w fun t111 w =>
                    opK Try.prog (.build 84 #[(0, (.const t2)), (1, (.const t111))]) 84 w fun t112 w =>
                    opK Try.prog (.alloc 84) 0 w fun t21 w =>
                    stn 2 t21 t112 w fun _ w =>
                    joinK 0 (fun (M4 : World → Prop) =>
                      opK Try.prog (.binOp .eql 3 (.const t2) (.const (.int .i64 1)) 3) 4 w fun t114 w =>
                      boolK t114
                        (opK Try.prog (.fieldAddr 84 (.const t21) 1) 0 w fun t115 w =>
                        ld1 t115 w fun t116 w =>
                        opK Try.prog (.binOp .mul 3 (.const (.int .i64 256)) (.const t3) 3) 3 w fun t118 w =>
                        opK Try.prog (.binOp .add 3 (.const t116) (.const t118) 3) 3 w fun t119 w =>
                        opK Try.prog (.fieldAddr 84 (.const t21) 1) 0 w fun t120 w =>
                        st1 t120 t119 w fun _ w =>
                        stK Try.prog (.nilCheck (.const t0)) 0 w.drew fun t123 =>
                        stK Try.prog (.fieldAddr 151 (.const t123) 2) 0 w.drew fun t124 =>
                        ld1 t124 w.drew fun t125 _ =>
                        stK Try.prog (.fieldAddr 84 (.const t21) 1) 0 w.drew fun t126 =>
                        ld1 t126 w.drew fun t127 _ =>
                        stK Try.prog (.build 204 #[(0, (.const t127))]) 204 w.drew fun t128 =>
                        opK Try.prog (.buildSlice 149 1 #[(0, (.const t128))]) 149 w.drew fun t129 w =>
                        (ld1 t124 w fun v _ => v = t125) ∧
                        (stK Try.prog (.fieldAddr 151 (.const t123) 2) 0 w fun v => v = t124) ∧
                        (stK Try.prog (.nilCheck (.const t0)) 0 w fun v => v = t123) ∧
                        opK Try.prog (.call ⟨(.builtin .append), #[(.const t125), (.const t129)], #[149, 149]⟩) 149 w fun t130 w =>
                        stK Try.prog (.nilCheck (.const t0)) 0 w fun t131 =>
                        stK Try.prog (.fieldAddr 151 (.const t131) 2) 0 w fun t132 =>
                        st1 t132 t130 w fun _ w =>
                        M4 w)
                        (stK Try.prog (.nilCheck (.const t0)) 0 w.drew fun t135 =>
                        stK Try.prog (.fieldAddr 151 (.const t135) 1) 0 w.drew fun t136 =>
                        ld1 t136 w.drew fun t137 _ =>
                        ldn 2 t21 w.drew fun t138 _ =>
                        opK Try.prog (.buildSlice 146 1 #[(0, (.const t138))]) 146 w.drew fun t139 w =>
                        (ld1 t136 w fun v _ => v = t137) ∧
                        (stK Try.prog (.fieldAddr 151 (.const t135) 1) 0 w fun v => v = t136) ∧
                        (stK Try.prog (.nilCheck (.const t0)) 0 w fun v => v = t135) ∧
                        opK Try.prog (.call ⟨(.builtin .append), #[(.const t137), (.const t139)], #[146, 146]⟩) 146 w fun t140 w =>
                        stK Try.prog (.nilCheck (.const t0)) 0 w fun t141 =>
                        stK Try.prog (.fieldAddr 151 (.const t141) 1) 0 w fun t142 =>
                        st1 t142 t140 w fun _ w =>
                        M4 w))
                      (fun (w : World) =>
                      opK Try.prog (.fieldAddr 84 (.const t21) 1) 0 w fun t144 w =>
                      ld1 t144 w fun t145 w =>
                      opK Try.prog (.buildSlice 69 1 #[(0, (.const t145))]) 69 w fun t146 w =>
                      opK Try.prog (.call ⟨(.builtin .append), #[(.const t19), (.const t146)], #[69, 69]⟩) 69 w fun t147 w =>
                      opK Try.prog (.binOp .add 3 (.const t17_2) (.const t67) 3) 3 w fun t150 w =>
                      opK Try.prog (.binOp .add 3 (.const t20) (.const (.int .i64 1)) 3) 3 w fun t107 w =>
                      N3 t150 t147 t107 w))
                    (opK Try.prog (.nilCheck (.const t0)) 0 w fun t152 w =>
                    opK Try.prog (.fieldAddr 151 (.const t152) 2) 0 w fun t153 w =>
                    ld1 t153 w fun t154 w =>
                    opK Try.prog (.indexAddr 149 (.const t154) (.const t52)) 0 w fun t157 w =>
                    opK Try.prog (.fieldAddr 204 (.const t157) 1) 0 w fun t158 w =>
                    st1 t158 t17_2 w fun _ w =>
                    R (.returned (.tuple #[t19, (.int .i64 0)])) w)) : Value → Value → Value → World → Prop) t17_1 (.slice none 0 0) (.int .i64 0) w))) : Value → World → Prop) t17 w))))
def an88 : Ann := (.cut [0, 1, 2, 3, 4] .no (.cut [0, 1, 2, 3, 4] (.cut [0, 1, 2, 3, 4, 27] .no (.two (.cut [10, 11] .no .no) .no)) (.cut [0, 1, 2, 3, 4] (.cut [0, 1, 2, 3, 4, 49] .no (.two (.cut [10, 11] .no .no) .no)) (.cut [0, 1, 2, 3, 4, 12] .no (.cut [0, 1, 2, 3, 4, 12] (.cut [0, 1, 2, 3, 4, 12, 54] .no (.two (.cut [10, 11] .no .no) .no)) (.cut [0, 1, 2, 3, 4, 12, 13, 14] .no (.cut [0, 1, 2, 3, 4, 12, 13, 14, 16] .no (.cut [0, 1, 2, 3, 4, 12, 13, 14, 16, 17] .no (.cut [0, 2, 3, 4, 12, 13, 14, 16, 17, 18] .no (.seq (some [17]) (.cut [0, 2, 3, 4, 12, 13, 14, 16, 17, 80] .no (.two .no .no)) (.cut [0, 2, 3, 4, 12, 13, 14, 16, 17] (.one (.loop [17] (.cut [0, 2, 3, 4, 12, 13, 14, 16, 17] (.cut [0, 2, 3, 4, 12, 13, 14, 16, 17, 84] .no (.two .no .no)) (.one .no)))) (.cut [0, 2, 3, 4, 12, 13, 16, 17] (.cut [0, 2, 3, 4, 12, 13, 16, 17, 102] .no (.two (.cut [10, 11] .no .no) .no)) (.cut [0, 2, 3, 4, 12, 13, 16, 17, 19] .no (.cut [0, 12, 17, 19] (.cut [0, 2, 3, 4, 12, 13, 16, 17, 19, 20] .no (.one (.loop [17, 19, 20] (.cut [0, 2, 3, 4, 12, 13, 16, 17, 19, 20] (.cut [0, 2, 3, 4, 12, 13, 16, 17, 19, 20, 105] .no (.two .no .no)) (.cut [0, 2, 3, 4, 12, 13, 16, 17, 19, 20] (.one (.cut [0, 2, 3, 4, 12, 13, 16, 17, 19, 20, 21] .no (.seq (some []) (.cut [0, 2, 3, 4, 12, 13, 16, 17, 19, 20, 21, 114] .no (.two (.cut [0, 2, 3, 4, 12, 13, 16, 17, 19, 20, 21] .no (.tree none (.seg [0, 1, 2, 3, 4, 5, 6, 7] (.eff 8 [5, 6, 7] (.seg [] (.eff 9 [2, 3, 4] (.seg [10, 11] (.eff 12 [10, 11] (.seg [] .fin))))))))) (.tree none (.seg [0, 1, 2, 3, 4, 5] (.eff 6 [5] (.seg [] (.eff 7 [2, 3, 4] (.seg [8, 9] (.eff 10 [8, 9] (.seg [] .fin)))))))))) (.cut [0, 2, 3, 4, 12, 13, 16, 17, 19, 20] .no .no)))) .no))))) (.cut [19] .no (.cut [10, 11] .no .no))))))))))))))))
theorem vw88 (R : Ending → World → Prop) (t0 t1 t2 t3 t4 : Value) (w : World) : W Try.prog Try.f88.ntmps (bodyOf Try.f88) an88 ⟨retK Try.prog Try.f88.results.toList fun v w => R (.returned v) w, retK Try.prog Try.f88.results.toList fun v w => R (.returned v) w, []⟩ (args0 0 [t0, t1, t2, t3, t4]) w = vc88 R t0 t1 t2 t3 t4 w := by kernel_rfl
theorem vk88 {R : Ending → World → Prop} {t0 t1 t2 t3 t4 : Value} {w : World} (h : vc88 R t0 t1 t2 t3 t4 w) : Calls Try.prog 88 #[t0, t1, t2, t3, t4] w R :=
  calls_of_W mixed (fn := Try.f88) (c := bodyOf Try.f88) (by kernel_rfl) (by kernel_rfl) an88 (args := [t0, t1, t2, t3, t4]) (by kernel_rfl) (by rw [vw88]; exact h)

/-- (*vault/pool.Pool).Objects -/
def vc89 (R : Ending → World → Prop) (t0 : Value) (w : World) : Prop :=
  opK Try.prog (.nilCheck (.const t0)) 0 w fun t8 w =>
  opK Try.prog (.fieldAddr 148 (.const t8) 1) 0 w fun t9 w =>
  ld1 t9 w fun t10 w =>
  opK Try.prog (.call ⟨(.builtin .len), #[(.const t10)], #[146]⟩) 3 w fun t11 w =>
  (loopK 2 (fun (N1 : Value → Value → World → Prop) (t3 : Value) (t12 : Value) (w : World) =>
    opK Try.prog (.binOp .lss 3 (.const t12) (.const t11) 3) 0 w fun t13 w =>
    boolK t13
      (joinK 1 (fun (M2 : Value → World → Prop) =>
        opK Try.prog (.indexAddr 146 (.const t10) (.const t12)) 0 w fun t14 w =>
        ldn 2 t14 w fun t15 w =>
        opK Try.prog (.alloc 84) 0 w fun t5 w =>
        stn 2 t5 t15 w fun _ w =>
        opK Try.prog (.fieldAddr 84 (.const t5) 0) 0 w fun t16 w =>
        ld1 t16 w fun t17 w =>
        opK Try.prog (.binOp .neq 3 (.const t17) (.const (.int .i64 0)) 3) 4 w fun t18 w =>
        boolK t18
          (ldn 2 t5 w fun t20 w =>
          opK Try.prog (.buildSlice 146 1 #[(0, (.const t20))]) 146 w fun t21 w =>
          opK Try.prog (.call ⟨(.builtin .append), #[(.const t3), (.const t21)], #[146, 146]⟩) 146 w fun t22 w =>
          M2 t22 w)
          (M2 t3 w))
        (fun (t3_1 : Value) (w : World) =>
        opK Try.prog (.binOp .add 3 (.const t12) (.const (.int .i64 1)) 3) 3 w fun t23 w =>
        N1 t3_1 t23 w))
      (opK Try.prog (.nilCheck (.const t0)) 0 w fun t25 w =>
      opK Try.prog (.fieldAddr 148 (.const t25) 0) 0 w fun t26 w =>
      ld1 t26 w fun t27 w =>
      opK Try.prog (.range 145 (.const t27)) 0 w fun t28 w =>
      (loopK 1 (fun (N3 : Value → World → Prop) (t3_2 : Value) (w : World) =>
        opK Try.prog (.next (.const t28) false) 0 w fun t29 w =>
        opK Try.prog (.extract (.const t29) 0) 4 w fun t30 w =>
        boolK t30
          (opK Try.prog (.entry (.const t28)) 0 w fun t31 w =>
          opK Try.prog (.extract (.const t31) 0) 3 w fun t32 w =>
          opK Try.prog (.build 84 #[(0, (.const (.int .i64 1))), (1, (.const t32))]) 84 w fun t35 w =>
          opK Try.prog (.buildSlice 146 1 #[(0, (.const t35))]) 146 w fun t36 w =>
          opK Try.prog (.call ⟨(.builtin .append), #[(.const t3_2), (.const t36)], #[146, 146]⟩) 146 w fun t37 w =>
          N3 t37 w)
          (callK Try.prog 124 #[t3_2, (.func (.func 125) #[] #[])] w fun t39 w =>
          R (.returned t3_2) w)) : Value → World → Prop) t3 w)) : Value → Value → World → Prop) (.slice none 0 0) (.int .i64 0) w
def an89 : Ann := (.seq none .no (.seq none .no (.seq none (.seq none .no (.one (.loop [3, 12] (.seq none .no (.seq none (.two .no .no) (.seq (some [3]) (.one (.seq none .no (.seq none .no (.two .no .no)))) .no)))))) (.seq none (.seq none .no (.one (.loop [3] (.seq none .no (.seq none (.two .no .no) (.one (.seq none .no .no))))))) (.seq none .no (.seq none .no .no))))))
theorem vw89 (R : Ending → World → Prop) (t0 : Value) (w : World) : W Try.prog Try.f89.ntmps (bodyOf Try.f89) an89 ⟨retK Try.prog Try.f89.results.toList fun v w => R (.returned v) w, retK Try.prog Try.f89.results.toList fun v w => R (.returned v) w, []⟩ (args0 0 [t0]) w = vc89 R t0 w := by kernel_rfl
theorem vk89 {R : Ending → World → Prop} {t0 : Value} {w : World} (h : vc89 R t0 w) : Calls Try.prog 89 #[t0] w R :=
  calls_of_W mixed (fn := Try.f89) (c := bodyOf Try.f89) (by kernel_rfl) (by kernel_rfl) an89 (args := [t0]) (by kernel_rfl) (by rw [vw89]; exact h)

/-- vault/vaultlaw.sameObjects -/
def vc90 (R : Ending → World → Prop) (t0 t1 : Value) (w : World) : Prop :=
  opK Try.prog (.call ⟨(.builtin .len), #[(.const t0)], #[146]⟩) 3 w fun t7 w =>
  opK Try.prog (.call ⟨(.builtin .len), #[(.const t1)], #[146]⟩) 3 w fun t9 w =>
  opK Try.prog (.binOp .neq 3 (.const t7) (.const t9) 3) 4 w fun t10 w =>
  boolK t10
    (R (.returned (.bool false)) w)
    ((loopK 1 (fun (N1 : Value → World → Prop) (t5 : Value) (w : World) =>
      opK Try.prog (.call ⟨(.builtin .len), #[(.const t0)], #[146]⟩) 3 w fun t13 w =>
      opK Try.prog (.binOp .lss 3 (.const t5) (.const t13) 3) 4 w fun t14 w =>
      boolK t14
        (stK Try.prog (.indexAddr 146 (.const t0) (.const t5)) 0 w.drew fun t19 =>
        ldn 2 t19 w.drew fun t20 _ =>
        stK Try.prog (.indexAddr 146 (.const t1) (.const t5)) 0 w.drew fun t23 =>
        ldn 2 t23 w.drew fun t24 _ =>
        stK Try.prog (.binOp .neq 84 (.const t20) (.const t24) 84) 4 w.drew fun t25 =>
        boolK t25
          (R (.returned (.bool false)) w.drew)
          (opK Try.prog (.binOp .add 3 (.const t5) (.const (.int .i64 1)) 3) 3 w.drew fun t16 w =>
          N1 t16 w))
        (R (.returned (.bool true)) w)) : Value → World → Prop) (.int .i64 0) w)
def an90 : Ann := (.seq none .no (.seq none (.seq none .no (.two (.seq none .no .no) .no)) (.seq none (.seq none .no (.one (.loop [5] (.seq none (.seq none .no (.two .no .no)) (.seq none (.one (.seq none (.draw 9) (.two (.seq none .no .no) .no))) .no))))) (.seq none .no .no))))
theorem vw90 (R : Ending → World → Prop) (t0 t1 : Value) (w : World) : W Try.prog Try.f90.ntmps (bodyOf Try.f90) an90 ⟨retK Try.prog Try.f90.results.toList fun v w => R (.returned v) w, retK Try.prog Try.f90.results.toList fun v w => R (.returned v) w, []⟩ (args0 0 [t0, t1]) w = vc90 R t0 t1 w := by kernel_rfl
theorem vk90 {R : Ending → World → Prop} {t0 t1 : Value} {w : World} (h : vc90 R t0 t1 w) : Calls Try.prog 90 #[t0, t1] w R :=
  calls_of_W mixed (fn := Try.f90) (c := bodyOf Try.f90) (by kernel_rfl) (by kernel_rfl) an90 (args := [t0, t1]) (by kernel_rfl) (by rw [vw90]; exact h)

/-- (*vault/vaultref.Pool).All -/
def vc91 (R : Ending → World → Prop) (t0 : Value) (w : World) : Prop :=
  opK Try.prog (.nilCheck (.const t0)) 0 w fun t10 w =>
  opK Try.prog (.fieldAddr 151 (.const t10) 1) 0 w fun t11 w =>
  ld1 t11 w fun t12 w =>
  opK Try.prog (.call ⟨(.builtin .append), #[(.const (.slice none 0 0)), (.const t12)], #[146, 146]⟩) 146 w fun t13 w =>
  (loopK 2 (fun (N1 : Value → Value → World → Prop) (t3 : Value) (t4 : Value) (w : World) =>
    opK Try.prog (.nilCheck (.const t0)) 0 w fun t16 w =>
    opK Try.prog (.fieldAddr 151 (.const t16) 2) 0 w fun t17 w =>
    ld1 t17 w fun t18 w =>
    opK Try.prog (.call ⟨(.builtin .len), #[(.const t18)], #[149]⟩) 3 w fun t19 w =>
    opK Try.prog (.binOp .lss 3 (.const t4) (.const t19) 3) 4 w fun t20 w =>
    boolK t20
      (opK Try.prog (.nilCheck (.const t0)) 0 w fun t25 w =>
      opK Try.prog (.fieldAddr 151 (.const t25) 2) 0 w fun t26 w =>
      ld1 t26 w fun t27 w =>
      opK Try.prog (.indexAddr 149 (.const t27) (.const t4)) 0 w fun t29 w =>
      opK Try.prog (.fieldAddr 204 (.const t29) 0) 0 w fun t30 w =>
      ld1 t30 w fun t31 w =>
      opK Try.prog (.build 84 #[(0, (.const (.int .i64 1))), (1, (.const t31))]) 84 w fun t32 w =>
      opK Try.prog (.buildSlice 146 1 #[(0, (.const t32))]) 146 w fun t33 w =>
      opK Try.prog (.call ⟨(.builtin .append), #[(.const t3), (.const t33)], #[146, 146]⟩) 146 w fun t34 w =>
      opK Try.prog (.binOp .add 3 (.const t4) (.const (.int .i64 1)) 3) 3 w fun t22 w =>
      N1 t34 t22 w)
      ((loopK 1 (fun (N2 : Value → World → Prop) (t5 : Value) (w : World) =>
        opK Try.prog (.call ⟨(.builtin .len), #[(.const t3)], #[146]⟩) 3 w fun t37 w =>
        opK Try.prog (.binOp .lss 3 (.const t5) (.const t37) 3) 4 w fun t38 w =>
        boolK t38
          ((loopK 1 (fun (N3 : Value → World → Prop) (t6 : Value) (w : World) =>
            stK Try.prog (.binOp .gtr 3 (.const t6) (.const (.int .i64 0)) 3) 4 w.drew fun t43 =>
            gS t43 true (fun K => K t3) fun t45 =>
            gS t43 true (fun K => K t6) fun t46 =>
            gS t43 true (fun K => stK Try.prog (.indexAddr 146 (.const t45) (.const t46)) 0 w.drew K) fun t47 =>
            gS t43 true (fun K => stK Try.prog (.fieldAddr 84 (.const t47) 0) 0 w.drew K) fun t48 =>
            gS t43 true (fun K => ld1 t48 w.drew fun v _ => K v) fun t49 =>
            gS t43 true (fun K => K t3) fun t50 =>
            gS t43 true (fun K => K t6) fun t51 =>
            gS t43 true (fun K => stK Try.prog (.binOp .sub 3 (.const t51) (.const (.int .i64 1)) 3) 3 w.drew K) fun t52 =>
            gS t43 true (fun K => stK Try.prog (.indexAddr 146 (.const t50) (.const t52)) 0 w.drew K) fun t53 =>
            gS t43 true (fun K => stK Try.prog (.fieldAddr 84 (.const t53) 0) 0 w.drew K) fun t54 =>
            gS t43 true (fun K => ld1 t54 w.drew fun v _ => K v) fun t55 =>
            gS t43 true (fun K => stK Try.prog (.binOp .lss 3 (.const t49) (.const t55) 3) 4 w.drew K) fun t56 =>
            gS t43 true (fun K => K t56) fun t57 =>
            gS t57 false (fun K => K t3) fun t58 =>
            gS t57 false (fun K => K t6) fun t59 =>
            gS t57 false (fun K => stK Try.prog (.indexAddr 146 (.const t58) (.const t59)) 0 w.drew K) fun t60 =>
            gS t57 false (fun K => stK Try.prog (.fieldAddr 84 (.const t60) 0) 0 w.drew K) fun t61 =>
            gS t57 false (fun K => ld1 t61 w.drew fun v _ => K v) fun t62 =>
            gS t57 false (fun K => K t3) fun t63 =>
            gS t57 false (fun K => K t6) fun t64 =>
            gS t57 false (fun K => stK Try.prog (.binOp .sub 3 (.const t64) (.const (.int .i64 1)) 3) 3 w.drew K) fun t65 =>
            gS t57 false (fun K => stK Try.prog (.indexAddr 146 (.const t63) (.const t65)) 0 w.drew K) fun t66 =>
            gS t57 false (fun K => stK Try.prog (.fieldAddr 84 (.const t66) 0) 0 w.drew K) fun t67 =>
            gS t57 false (fun K => ld1 t67 w.drew fun v _ => K v) fun t68 =>
            gS t57 false (fun K => stK Try.prog (.binOp .eql 3 (.const t62) (.const t68) 3) 4 w.drew K) fun t69 =>
            gS t57 false (fun K => K t69) fun t70 =>
            gS t70 true (fun K => K t3) fun t71 =>
            gS t70 true (fun K => K t6) fun t72 =>
            gS t70 true (fun K => stK Try.prog (.indexAddr 146 (.const t71) (.const t72)) 0 w.drew K) fun t73 =>
            gS t70 true (fun K => stK Try.prog (.fieldAddr 84 (.const t73) 1) 0 w.drew K) fun t74 =>
            gS t70 true (fun K => ld1 t74 w.drew fun v _ => K v) fun t75 =>
            gS t70 true (fun K => K t3) fun t76 =>
            gS t70 true (fun K => K t6) fun t77 =>
            gS t70 true (fun K => stK Try.prog (.binOp .sub 3 (.const t77) (.const (.int .i64 1)) 3) 3 w.drew K) fun t78 =>
            gS t70 true (fun K => stK Try.prog (.indexAddr 146 (.const t76) (.const t78)) 0 w.drew K) fun t79 =>
            gS t70 true (fun K => stK Try.prog (.fieldAddr 84 (.const t79) 1) 0 w.drew K) fun t80 =>
            gS t70 true (fun K => ld1 t80 w.drew fun v _ => K v) fun t81 =>
            gS t70 true (fun K => stK Try.prog (.binOp .lss 3 (.const t75) (.const t81) 3) 4 w.drew K) fun t82 =>
            gS t57 false (fun K => stK Try.prog (.pick (.const t70) (.const t82) (.const (.bool false))) 4 w.drew K) fun t83 =>
            gS t43 true (fun K => stK Try.prog (.pick (.const t57) (.const (.bool true)) (.const t83)) 4 w.drew K) fun t84 =>
            stK Try.prog (.pick (.const t43) (.const t84) (.const (.bool false))) 4 w.drew fun t85 =>
            boolK t85
              (opK Try.prog (.indexAddr 146 (.const t3) (.const t6)) 0 w.drew fun t90 w =>
              ldn 2 t90 w fun t91 w =>
              opK Try.prog (.alloc 84) 0 w fun t7 w =>
              stn 2 t7 t91 w fun _ w =>
              opK Try.prog (.binOp .sub 3 (.const t6) (.const (.int .i64 1)) 3) 3 w fun t96 w =>
              opK Try.prog (.indexAddr 146 (.const t3) (.const t96)) 0 w fun t97 w =>
              ldn 2 t97 w fun t98 w =>
              opK Try.prog (.indexAddr 146 (.const t3) (.const t6)) 0 w fun t99 w =>
              stn 2 t99 t98 w fun _ w =>
              opK Try.prog (.binOp .sub 3 (.const t6) (.const (.int .i64 1)) 3) 3 w fun t102 w =>
              ldn 2 t7 w fun t103 w =>
              opK Try.prog (.indexAddr 146 (.const t3) (.const t102)) 0 w fun t104 w =>
              stn 2 t104 t103 w fun _ w =>
              opK Try.prog (.binOp .sub 3 (.const t6) (.const (.int .i64 1)) 3) 3 w fun t87 w =>
              N3 t87 w)
              (opK Try.prog (.binOp .add 3 (.const t5) (.const (.int .i64 1)) 3) 3 w.drew fun t40 w =>
              N2 t40 w)) : Value → World → Prop) t5 w)
          (R (.returned t3) w)) : Value → World → Prop) (.int .i64 1) w)) : Value → Value → World → Prop) t13 (.int .i64 0) w
def an91 : Ann := (.cut [0] .no (.cut [0, 3] .no (.cut [0, 3] .no (.cut [3] (.cut [0, 3, 4] .no (.one (.loop [3, 4] (.cut [0, 3, 4] (.cut [0, 3, 4, 20] .no (.two .no .no)) (.cut [0, 3, 4] (.one .no) .no))))) (.cut [3] (.cut [3, 5] .no (.one (.loop [5] (.cut [3, 5] (.cut [3, 5, 38] .no (.two .no .no)) (.cut [3, 5] (.one (.cut [3, 5, 6] .no (.one (.loop [6] (.cut [3, 5, 6] (.cut [3, 5, 6, 85] (.draw 44) (.two .no .no)) (.cut [3, 5, 6] (.one (.cut [3, 5, 6, 7] .no (.cut [3, 5, 6, 7] .no .no))) .no)))))) .no))))) (.cut [2] .no .no))))))
theorem vw91 (R : Ending → World → Prop) (t0 : Value) (w : World) : W Try.prog Try.f91.ntmps (bodyOf Try.f91) an91 ⟨retK Try.prog Try.f91.results.toList fun v w => R (.returned v) w, retK Try.prog Try.f91.results.toList fun v w => R (.returned v) w, []⟩ (args0 0 [t0]) w = vc91 R t0 w := by kernel_rfl
theorem vk91 {R : Ending → World → Prop} {t0 : Value} {w : World} (h : vc91 R t0 w) : Calls Try.prog 91 #[t0] w R :=
  calls_of_W mixed (fn := Try.f91) (c := bodyOf Try.f91) (by kernel_rfl) (by kernel_rfl) an91 (args := [t0]) (by kernel_rfl) (by rw [vw91]; exact h)

/-- (*vault/vaultlaw.Books).ownObjects -/
def vc92 (R : Ending → World → Prop) (t0 t1 : Value) (w : World) : Prop :=
  opK Try.prog (.nilCheck (.const t0)) 0 w fun t9 w =>
  opK Try.prog (.fieldAddr 47 (.const t9) 3) 0 w fun t10 w =>
  ld1 t10 w fun t11 w =>
  opK Try.prog (.call ⟨(.builtin .len), #[(.const t11)], #[43]⟩) 3 w fun t12 w =>
  opK Try.prog (.binOp .quo 3 (.const t12) (.const (.int .i64 2)) 3) 3 w fun t13 w =>
  opK Try.prog (.binOp .sub 3 (.const (.int .i64 (-77))) (.const t13) 3) 3 w fun t14 w =>
  opK Try.prog (.build 84 #[(1, (.const t14))]) 84 w fun t15 w =>
  opK Try.prog (.alloc 84) 0 w fun t4 w =>
  stn 2 t4 t15 w fun _ w =>
  (loopK 1 (fun (N1 : Value → World → Prop) (t5 : Value) (w : World) =>
    opK Try.prog (.call ⟨(.builtin .len), #[(.const t1)], #[146]⟩) 3 w fun t18 w =>
    opK Try.prog (.binOp .lss 3 (.const t5) (.const t18) 3) 4 w fun t19 w =>
    boolK t19
      (ldn 2 t4 w fun t24 w =>
      opK Try.prog (.indexAddr 146 (.const t1) (.const t5)) 0 w fun t25 w =>
      stn 2 t25 t24 w fun _ w =>
      opK Try.prog (.binOp .add 3 (.const t5) (.const (.int .i64 1)) 3) 3 w fun t21 w =>
      N1 t21 w)
      ((loopK 2 (fun (N2 : Value → Value → World → Prop) (t6 : Value) (t7 : Value) (w : World) =>
        opK Try.prog (.binOp .lss 3 (.const t7) (.const (.int .i64 33)) 3) 4 w fun t28 w =>
        boolK t28
          (ldn 2 t4 w fun t32 w =>
          opK Try.prog (.buildSlice 146 1 #[(0, (.const t32))]) 146 w fun t33 w =>
          opK Try.prog (.call ⟨(.builtin .append), #[(.const t6), (.const t33)], #[146, 146]⟩) 146 w fun t34 w =>
          opK Try.prog (.binOp .add 3 (.const t7) (.const (.int .i64 1)) 3) 3 w fun t30 w =>
          N2 t34 t30 w)
          (opK Try.prog (.nilCheck (.const t0)) 0 w fun t37 w =>
          opK Try.prog (.fieldAddr 47 (.const t37) 3) 0 w fun t38 w =>
          ld1 t38 w fun t39 w =>
          opK Try.prog (.buildSlice 43 2 #[(0, (.const t1)), (1, (.const t6))]) 43 w fun t42 w =>
          opK Try.prog (.call ⟨(.builtin .append), #[(.const t39), (.const t42)], #[43, 43]⟩) 43 w fun t43 w =>
          opK Try.prog (.nilCheck (.const t0)) 0 w fun t44 w =>
          opK Try.prog (.fieldAddr 47 (.const t44) 3) 0 w fun t45 w =>
          st1 t45 t43 w fun _ w =>
          R (.returned (.tuple #[])) w)) : Value → Value → World → Prop) t1 (.int .i64 0) w)) : Value → World → Prop) (.int .i64 0) w
def an92 : Ann := (.seq none .no (.seq none (.seq none .no (.one (.loop [5] (.seq none (.seq none .no (.two .no .no)) (.seq none (.one .no) .no))))) (.seq none .no (.seq none (.seq none .no (.one (.loop [6, 7] (.seq none (.seq none .no (.two .no .no)) (.seq none (.one .no) .no))))) .no))))
theorem vw92 (R : Ending → World → Prop) (t0 t1 : Value) (w : World) : W Try.prog Try.f92.ntmps (bodyOf Try.f92) an92 ⟨retK Try.prog Try.f92.results.toList fun v w => R (.returned v) w, retK Try.prog Try.f92.results.toList fun v w => R (.returned v) w, []⟩ (args0 0 [t0, t1]) w = vc92 R t0 t1 w := by kernel_rfl
theorem vk92 {R : Ending → World → Prop} {t0 t1 : Value} {w : World} (h : vc92 R t0 t1 w) : Calls Try.prog 92 #[t0, t1] w R :=
  calls_of_W mixed (fn := Try.f92) (c := bodyOf Try.f92) (by kernel_rfl) (by kernel_rfl) an92 (args := [t0, t1]) (by kernel_rfl) (by rw [vw92]; exact h)

/-- (*vault/pool.region).within -/
def vc119 (R : Ending → World → Prop) (t0 t1 : Value) (w : World) : Prop :=
  stK Try.prog (.binOp .neq 152 (.const t1) (.const t0) 152) 4 w.drew fun t7 =>
  gS t7 true (fun K => K t1) fun t9 =>
  gS t7 true (fun K => stK Try.prog (.nilCheck (.const t9)) 0 w.drew K) fun t10 =>
  gS t7 true (fun K => stK Try.prog (.fieldAddr 154 (.const t10) 1) 0 w.drew K) fun t11 =>
  gS t7 true (fun K => ld1 t11 w.drew fun v _ => K v) fun t12 =>
  gS t7 true (fun K => K t0) fun t13 =>
  gS t7 true (fun K => stK Try.prog (.nilCheck (.const t13)) 0 w.drew K) fun t14 =>
  gS t7 true (fun K => stK Try.prog (.fieldAddr 154 (.const t14) 1) 0 w.drew K) fun t15 =>
  gS t7 true (fun K => ld1 t15 w.drew fun v _ => K v) fun t16 =>
  gS t7 true (fun K => stK Try.prog (.binOp .lss 3 (.const t12) (.const t16) 3) 4 w.drew K) fun t17 =>
  stK Try.prog (.pick (.const t7) (.const t17) (.const (.bool false))) 4 w.drew fun t18 =>
  gS t18 true (fun K => K t1) fun t20 =>
  gS t18 true (fun K => stK Try.prog (.nilCheck (.const t20)) 0 w.drew K) fun t21 =>
  gS t18 true (fun K => stK Try.prog (.fieldAddr 154 (.const t21) 0) 0 w.drew K) fun t22 =>
  gS t18 true (fun K => ld1 t22 w.drew fun v _ => K v) fun t23 =>
  gS t18 true (fun K => K t0) fun t24 =>
  gS t18 true (fun K => stK Try.prog (.nilCheck (.const t24)) 0 w.drew K) fun t25 =>
  gS t18 true (fun K => stK Try.prog (.fieldAddr 154 (.const t25) 0) 0 w.drew K) fun t26 =>
  gS t18 true (fun K => ld1 t26 w.drew fun v _ => K v) fun t27 =>
  gS t18 true (fun K => stK Try.prog (.binOp .geq 3 (.const t23) (.const t27) 3) 4 w.drew K) fun t28 =>
  stK Try.prog (.pick (.const t18) (.const t28) (.const (.bool false))) 4 w.drew fun t29 =>
  gS t29 true (fun K => K t1) fun t31 =>
  gS t29 true (fun K => stK Try.prog (.nilCheck (.const t31)) 0 w.drew K) fun t32 =>
  gS t29 true (fun K => stK Try.prog (.fieldAddr 154 (.const t32) 0) 0 w.drew K) fun t33 =>
  gS t29 true (fun K => ld1 t33 w.drew fun v _ => K v) fun t34 =>
  gS t29 true (fun K => K t0) fun t35 =>
  gS t29 true (fun K => stK Try.prog (.nilCheck (.const t35)) 0 w.drew K) fun t36 =>
  gS t29 true (fun K => stK Try.prog (.fieldAddr 154 (.const t36) 0) 0 w.drew K) fun t37 =>
  gS t29 true (fun K => ld1 t37 w.drew fun v _ => K v) fun t38 =>
  gS t29 true (fun K => K t0) fun t39 =>
  gS t29 true (fun K => stK Try.prog (.nilCheck (.const t39)) 0 w.drew K) fun t40 =>
  gS t29 true (fun K => stK Try.prog (.fieldAddr 154 (.const t40) 1) 0 w.drew K) fun t41 =>
  gS t29 true (fun K => ld1 t41 w.drew fun v _ => K v) fun t42 =>
  gS t29 true (fun K => stK Try.prog (.binOp .shl 3 (.const (.int .i64 1)) (.const t42) 3) 3 w.drew K) fun t43 =>
  gS t29 true (fun K => stK Try.prog (.binOp .add 3 (.const t38) (.const t43) 3) 3 w.drew K) fun t44 =>
  gS t29 true (fun K => stK Try.prog (.binOp .lss 3 (.const t34) (.const t44) 3) 4 w.drew K) fun t45 =>
  stK Try.prog (.pick (.const t29) (.const t45) (.const (.bool false))) 4 w.drew fun t46 =>
  R (.returned t46) w.drew
def an119 : Ann := (.seq none .no (.seq none (.draw 43) .no))
theorem vw119 (R : Ending → World → Prop) (t0 t1 : Value) (w : World) : W Try.prog Try.f119.ntmps (bodyOf Try.f119) an119 ⟨retK Try.prog Try.f119.results.toList fun v w => R (.returned v) w, retK Try.prog Try.f119.results.toList fun v w => R (.returned v) w, []⟩ (args0 0 [t0, t1]) w = vc119 R t0 t1 w := by kernel_rfl
theorem vk119 {R : Ending → World → Prop} {t0 t1 : Value} {w : World} (h : vc119 R t0 t1 w) : Calls Try.prog 119 #[t0, t1] w R :=
  calls_of_W mixed (fn := Try.f119) (c := bodyOf Try.f119) (by kernel_rfl) (by kernel_rfl) an119 (args := [t0, t1]) (by kernel_rfl) (by rw [vw119]; exact h)

/-- vault/vaultref.extent -/
def vc120 (R : Ending → World → Prop) (t0 : Value) (w : World) : Prop :=
  opK Try.prog (.box 84 (.const t0)) 0 w fun t1 w =>
  opK Try.prog (.fieldAddr 84 (.const t1) 0) 0 w fun t6 w =>
  ld1 t6 w fun t7 w =>
  opK Try.prog (.binOp .neq 3 (.const t7) (.const (.int .i64 1)) 3) 4 w fun t8 w =>
  boolK t8
    (opK Try.prog (.fieldAddr 84 (.const t1) 1) 0 w fun t9 w =>
    ld1 t9 w fun t10 w =>
    R (.returned (.tuple #[t10, (.int .i64 1)])) w)
    ((loopK 2 (fun (N1 : Value → Value → World → Prop) (t4 : Value) (t5 : Value) (w : World) =>
      opK Try.prog (.fieldAddr 84 (.const t1) 1) 0 w fun t12 w =>
      ld1 t12 w fun t13 w =>
      opK Try.prog (.binOp .quo 3 (.const t13) (.const (.int .i64 256)) 3) 3 w fun t14 w =>
      opK Try.prog (.binOp .lss 3 (.const t5) (.const t14) 3) 4 w fun t15 w =>
      boolK t15
        (opK Try.prog (.binOp .mul 3 (.const (.int .i64 2)) (.const t4) 3) 3 w fun t19 w =>
        opK Try.prog (.binOp .add 3 (.const t5) (.const (.int .i64 1)) 3) 3 w fun t17 w =>
        N1 t19 t17 w)
        (opK Try.prog (.fieldAddr 84 (.const t1) 1) 0 w fun t20 w =>
        ld1 t20 w fun t21 w =>
        opK Try.prog (.binOp .rem 3 (.const t21) (.const (.int .i64 256)) 3) 3 w fun t22 w =>
        R (.returned (.tuple #[t22, t4])) w)) : Value → Value → World → Prop) (.int .i64 1) (.int .i64 0) w)
def an120 : Ann := (.seq none .no (.seq none (.seq none .no (.two (.seq none .no .no) .no)) (.seq none .no (.seq none (.seq none .no (.one (.loop [4, 5] (.seq none (.seq none .no (.two .no .no)) (.seq none (.one .no) .no))))) (.seq none .no .no)))))
theorem vw120 (R : Ending → World → Prop) (t0 : Value) (w : World) : W Try.prog Try.f120.ntmps (bodyOf Try.f120) an120 ⟨retK Try.prog Try.f120.results.toList fun v w => R (.returned v) w, retK Try.prog Try.f120.results.toList fun v w => R (.returned v) w, []⟩ (args0 0 [t0]) w = vc120 R t0 w := by kernel_rfl
theorem vk120 {R : Ending → World → Prop} {t0 : Value} {w : World} (h : vc120 R t0 w) : Calls Try.prog 120 #[t0] w R :=
  calls_of_W mixed (fn := Try.f120) (c := bodyOf Try.f120) (by kernel_rfl) (by kernel_rfl) an120 (args := [t0]) (by kernel_rfl) (by rw [vw120]; exact h)

/-- vault/vaultref.meets -/
def vc121 (R : Ending → World → Prop) (t0 t1 t2 t3 : Value) (w : World) : Prop :=
  opK Try.prog (.binOp .add 3 (.const t2) (.const t3) 3) 3 w fun t12 w =>
  opK Try.prog (.binOp .lss 3 (.const t0) (.const t12) 3) 4 w fun t13 w =>
  gK t13 true w (fun K => K t2 w) fun t15 w =>
  gK t13 true w (fun K => K t0 w) fun t16 w =>
  gK t13 true w (fun K => K t1 w) fun t17 w =>
  gK t13 true w (fun K => opK Try.prog (.binOp .add 3 (.const t16) (.const t17) 3) 3 w K) fun t18 w =>
  gK t13 true w (fun K => opK Try.prog (.binOp .lss 3 (.const t15) (.const t18) 3) 4 w K) fun t19 w =>
  opK Try.prog (.pick (.const t13) (.const t19) (.const (.bool false))) 4 w fun t20 w =>
  R (.returned t20) w
def an121 : Ann := (.seq none .no (.seq none .no .no))
theorem vw121 (R : Ending → World → Prop) (t0 t1 t2 t3 : Value) (w : World) : W Try.prog Try.f121.ntmps (bodyOf Try.f121) an121 ⟨retK Try.prog Try.f121.results.toList fun v w => R (.returned v) w, retK Try.prog Try.f121.results.toList fun v w => R (.returned v) w, []⟩ (args0 0 [t0, t1, t2, t3]) w = vc121 R t0 t1 t2 t3 w := by kernel_rfl
theorem vk121 {R : Ending → World → Prop} {t0 t1 t2 t3 : Value} {w : World} (h : vc121 R t0 t1 t2 t3 w) : Calls Try.prog 121 #[t0, t1, t2, t3] w R :=
  calls_of_W mixed (fn := Try.f121) (c := bodyOf Try.f121) (by kernel_rfl) (by kernel_rfl) an121 (args := [t0, t1, t2, t3]) (by kernel_rfl) (by rw [vw121]; exact h)

/-- (*vault/vaultref.Pool).region -/
def vc122 (R : Ending → World → Prop) (t0 t1 : Value) (w : World) : Prop :=
  (loopK 1 (fun (N1 : Value → World → Prop) (t5 : Value) (w : World) =>
    opK Try.prog (.nilCheck (.const t0)) 0 w fun t8 w =>
    opK Try.prog (.fieldAddr 151 (.const t8) 2) 0 w fun t9 w =>
    ld1 t9 w fun t10 w =>
    opK Try.prog (.call ⟨(.builtin .len), #[(.const t10)], #[149]⟩) 3 w fun t11 w =>
    opK Try.prog (.binOp .lss 3 (.const t5) (.const t11) 3) 4 w fun t12 w =>
    boolK t12
      (opK Try.prog (.nilCheck (.const t0)) 0 w fun t16 w =>
      opK Try.prog (.fieldAddr 151 (.const t16) 2) 0 w fun t17 w =>
      ld1 t17 w fun t18 w =>
      opK Try.prog (.indexAddr 149 (.const t18) (.const t5)) 0 w fun t20 w =>
      opK Try.prog (.fieldAddr 204 (.const t20) 0) 0 w fun t21 w =>
      ld1 t21 w fun t22 w =>
      opK Try.prog (.binOp .eql 3 (.const t22) (.const t1) 3) 4 w fun t24 w =>
      boolK t24
        (R (.returned t5) w)
        (opK Try.prog (.binOp .add 3 (.const t5) (.const (.int .i64 1)) 3) 3 w fun t14 w =>
        N1 t14 w))
      (R (.returned (.int .i64 (-1))) w)) : Value → World → Prop) (.int .i64 0) w
def an122 : Ann := (.seq none .no (.seq none (.seq none .no (.one (.loop [5] (.seq none (.seq none .no (.two .no .no)) (.seq none (.one (.seq none .no (.two (.seq none .no .no) .no))) .no))))) (.seq none .no .no)))
theorem vw122 (R : Ending → World → Prop) (t0 t1 : Value) (w : World) : W Try.prog Try.f122.ntmps (bodyOf Try.f122) an122 ⟨retK Try.prog Try.f122.results.toList fun v w => R (.returned v) w, retK Try.prog Try.f122.results.toList fun v w => R (.returned v) w, []⟩ (args0 0 [t0, t1]) w = vc122 R t0 t1 w := by kernel_rfl
theorem vk122 {R : Ending → World → Prop} {t0 t1 : Value} {w : World} (h : vc122 R t0 t1 w) : Calls Try.prog 122 #[t0, t1] w R :=
  calls_of_W mixed (fn := Try.f122) (c := bodyOf Try.f122) (by kernel_rfl) (by kernel_rfl) an122 (args := [t0, t1]) (by kernel_rfl) (by rw [vw122]; exact h)

/-- (*vault/vaultref.Pool).lies -/
def vc123 (R : Ending → World → Prop) (t0 t1 : Value) (w : World) : Prop :=
  opK Try.prog (.build 84 #[(0, (.const (.int .i64 1))), (1, (.const t1))]) 84 w fun t17 w =>
  callK Try.prog 120 #[t17] w fun t18 w =>
  opK Try.prog (.extract (.const t18) 0) 3 w fun t19 w =>
  opK Try.prog (.extract (.const t18) 1) 3 w fun t20 w =>
  (loopK 1 (fun (N1 : Value → World → Prop) (t7 : Value) (w : World) =>
    opK Try.prog (.nilCheck (.const t0)) 0 w fun t23 w =>
    opK Try.prog (.fieldAddr 151 (.const t23) 1) 0 w fun t24 w =>
    ld1 t24 w fun t25 w =>
    opK Try.prog (.call ⟨(.builtin .len), #[(.const t25)], #[146]⟩) 3 w fun t26 w =>
    opK Try.prog (.binOp .lss 3 (.const t7) (.const t26) 3) 4 w fun t27 w =>
    boolK t27
      (opK Try.prog (.nilCheck (.const t0)) 0 w fun t32 w =>
      opK Try.prog (.fieldAddr 151 (.const t32) 1) 0 w fun t33 w =>
      ld1 t33 w fun t34 w =>
      opK Try.prog (.indexAddr 146 (.const t34) (.const t7)) 0 w fun t36 w =>
      ldn 2 t36 w fun t37 w =>
      callK Try.prog 120 #[t37] w fun t38 w =>
      opK Try.prog (.extract (.const t38) 0) 3 w fun t39 w =>
      opK Try.prog (.extract (.const t38) 1) 3 w fun t40 w =>
      callK Try.prog 121 #[t19, t20, t39, t40] w fun t45 w =>
      boolK t45
        (R (.returned (.bool true)) w)
        (opK Try.prog (.binOp .add 3 (.const t7) (.const (.int .i64 1)) 3) 3 w fun t29 w =>
        N1 t29 w))
      ((loopK 1 (fun (N2 : Value → World → Prop) (t11 : Value) (w : World) =>
        opK Try.prog (.nilCheck (.const t0)) 0 w fun t49 w =>
        opK Try.prog (.fieldAddr 151 (.const t49) 2) 0 w fun t50 w =>
        ld1 t50 w fun t51 w =>
        opK Try.prog (.call ⟨(.builtin .len), #[(.const t51)], #[149]⟩) 3 w fun t52 w =>
        opK Try.prog (.binOp .lss 3 (.const t11) (.const t52) 3) 4 w fun t53 w =>
        boolK t53
          (opK Try.prog (.nilCheck (.const t0)) 0 w fun t58 w =>
          opK Try.prog (.fieldAddr 151 (.const t58) 2) 0 w fun t59 w =>
          ld1 t59 w fun t60 w =>
          opK Try.prog (.indexAddr 149 (.const t60) (.const t11)) 0 w fun t62 w =>
          opK Try.prog (.fieldAddr 204 (.const t62) 0) 0 w fun t63 w =>
          ld1 t63 w fun t64 w =>
          opK Try.prog (.build 84 #[(0, (.const (.int .i64 1))), (1, (.const t64))]) 84 w fun t65 w =>
          callK Try.prog 120 #[t65] w fun t66 w =>
          opK Try.prog (.extract (.const t66) 0) 3 w fun t67 w =>
          opK Try.prog (.extract (.const t66) 1) 3 w fun t68 w =>
          callK Try.prog 121 #[t19, t20, t67, t68] w fun t73 w =>
          gK t73 true w (fun K => K t68 w) fun t76 w =>
          gK t73 true w (fun K => K t20 w) fun t77 w =>
          gK t73 true w (fun K => opK Try.prog (.binOp .lss 3 (.const t76) (.const t77) 3) 4 w K) fun t78 w =>
          opK Try.prog (.pick (.const t73) (.const t78) (.const (.bool false))) 4 w fun t79 w =>
          boolK t79
            (R (.returned (.bool true)) w)
            (opK Try.prog (.binOp .add 3 (.const t11) (.const (.int .i64 1)) 3) 3 w fun t55 w =>
            N2 t55 w))
          (R (.returned (.bool false)) w)) : Value → World → Prop) (.int .i64 0) w)) : Value → World → Prop) (.int .i64 0) w
def an123 : Ann := (.seq none .no (.seq none .no (.seq none (.seq none .no (.one (.loop [7] (.seq none (.seq none .no (.two .no .no)) (.seq none (.one (.seq none .no (.seq none .no (.seq none .no (.two (.seq none .no .no) .no))))) .no))))) (.seq none (.seq none .no (.one (.loop [11] (.seq none (.seq none .no (.two .no .no)) (.seq none (.one (.seq none .no (.seq none .no (.seq none .no (.two (.seq none .no .no) .no))))) .no))))) (.seq none .no .no)))))
theorem vw123 (R : Ending → World → Prop) (t0 t1 : Value) (w : World) : W Try.prog Try.f123.ntmps (bodyOf Try.f123) an123 ⟨retK Try.prog Try.f123.results.toList fun v w => R (.returned v) w, retK Try.prog Try.f123.results.toList fun v w => R (.returned v) w, []⟩ (args0 0 [t0, t1]) w = vc123 R t0 t1 w := by kernel_rfl
theorem vk123 {R : Ending → World → Prop} {t0 t1 : Value} {w : World} (h : vc123 R t0 t1 w) : Calls Try.prog 123 #[t0, t1] w R :=
  calls_of_W mixed (fn := Try.f123) (c := bodyOf Try.f123) (by kernel_rfl) (by kernel_rfl) an123 (args := [t0, t1]) (by kernel_rfl) (by rw [vw123]; exact h)

/-- (*vault/pool.Pool).Objects$1 -/
def vc125 (R : Ending → World → Prop) (t0 t1 : Value) (w : World) : Prop :=
  opK Try.prog (.box 84 (.const t0)) 0 w fun t2 w =>
  opK Try.prog (.box 84 (.const t1)) 0 w fun t3 w =>
  opK Try.prog (.fieldAddr 84 (.const t2) 0) 0 w fun t5 w =>
  ld1 t5 w fun t6 w =>
  opK Try.prog (.fieldAddr 84 (.const t3) 0) 0 w fun t7 w =>
  ld1 t7 w fun t8 w =>
  opK Try.prog (.binOp .neq 3 (.const t6) (.const t8) 3) 4 w fun t9 w =>
  boolK t9
    (opK Try.prog (.fieldAddr 84 (.const t2) 0) 0 w fun t10 w =>
    ld1 t10 w fun t11 w =>
    opK Try.prog (.fieldAddr 84 (.const t3) 0) 0 w fun t12 w =>
    ld1 t12 w fun t13 w =>
    opK Try.prog (.binOp .sub 3 (.const t11) (.const t13) 3) 3 w fun t14 w =>
    R (.returned t14) w)
    (opK Try.prog (.fieldAddr 84 (.const t2) 1) 0 w fun t15 w =>
    ld1 t15 w fun t16 w =>
    opK Try.prog (.fieldAddr 84 (.const t3) 1) 0 w fun t17 w =>
    ld1 t17 w fun t18 w =>
    opK Try.prog (.binOp .sub 3 (.const t16) (.const t18) 3) 3 w fun t19 w =>
    R (.returned t19) w)
def an125 : Ann := (.seq none .no (.seq none (.seq none .no (.two (.seq none .no .no) .no)) (.seq none .no .no)))
theorem vw125 (R : Ending → World → Prop) (t0 t1 : Value) (w : World) : W Try.prog Try.f125.ntmps (bodyOf Try.f125) an125 ⟨retK Try.prog Try.f125.results.toList fun v w => R (.returned v) w, retK Try.prog Try.f125.results.toList fun v w => R (.returned v) w, []⟩ (args0 0 [t0, t1]) w = vc125 R t0 t1 w := by kernel_rfl
theorem vk125 {R : Ending → World → Prop} {t0 t1 : Value} {w : World} (h : vc125 R t0 t1 w) : Calls Try.prog 125 #[t0, t1] w R :=
  calls_of_W mixed (fn := Try.f125) (c := bodyOf Try.f125) (by kernel_rfl) (by kernel_rfl) an125 (args := [t0, t1]) (by kernel_rfl) (by rw [vw125]; exact h)

/-- vault/vaultlaw.near -/
def vc24 (R : Ending → World → Prop) (t0 t1 : Value) (w : World) : Prop :=
  opK Try.prog (.binOp .rem 3 (.const t0) (.const (.int .i64 31)) 3) 3 w fun t6 w =>
  opK Try.prog (.binOp .eql 3 (.const t6) (.const (.int .i64 30)) 3) 4 w fun t7 w =>
  boolK t7
    (R (.returned t0) w)
    (opK Try.prog (.binOp .add 3 (.const t1) (.const (.int .i64 2)) 3) 3 w fun t11 w =>
    callK Try.prog 44 #[t0, t11] w fun t12 w =>
    opK Try.prog (.binOp .sub 3 (.const t12) (.const (.int .i64 1)) 3) 3 w fun t13 w =>
    R (.returned t13) w)
def an24 : Ann := (.seq none .no (.seq none (.seq none .no (.two (.seq none .no .no) .no)) (.seq none .no .no)))
theorem vw24 (R : Ending → World → Prop) (t0 t1 : Value) (w : World) : W Try.prog Try.f24.ntmps (bodyOf Try.f24) an24 ⟨retK Try.prog Try.f24.results.toList fun v w => R (.returned v) w, retK Try.prog Try.f24.results.toList fun v w => R (.returned v) w, []⟩ (args0 0 [t0, t1]) w = vc24 R t0 t1 w := by kernel_rfl
theorem vk24 {R : Ending → World → Prop} {t0 t1 : Value} {w : World} (h : vc24 R t0 t1 w) : Calls Try.prog 24 #[t0, t1] w R :=
  calls_of_W mixed (fn := Try.f24) (c := bodyOf Try.f24) (by kernel_rfl) (by kernel_rfl) an24 (args := [t0, t1]) (by kernel_rfl) (by rw [vw24]; exact h)

/-- vault/vaultlaw.pick -/
def vc44 (R : Ending → World → Prop) (t0 t1 : Value) (w : World) : Prop :=
  joinK 1 (fun (M1 : Value → World → Prop) =>
    opK Try.prog (.binOp .lss 3 (.const t0) (.const (.int .i64 0)) 3) 4 w fun t6 w =>
    boolK t6
      (opK Try.prog (.binOp .add 3 (.const t0) (.const (.int .i64 1)) 3) 3 w fun t8 w =>
      opK Try.prog (.unOp .neg 3 (.const t8)) 3 w fun t9 w =>
      M1 t9 w)
      (M1 t0 w))
    (fun (t0_1 : Value) (w : World) =>
    opK Try.prog (.binOp .rem 3 (.const t0_1) (.const t1) 3) 3 w fun t12 w =>
    R (.returned t12) w)
def an44 : Ann := (.seq none .no (.seq (some [0]) (.seq none .no (.two .no .no)) (.seq none .no .no)))
theorem vw44 (R : Ending → World → Prop) (t0 t1 : Value) (w : World) : W Try.prog Try.f44.ntmps (bodyOf Try.f44) an44 ⟨retK Try.prog Try.f44.results.toList fun v w => R (.returned v) w, retK Try.prog Try.f44.results.toList fun v w => R (.returned v) w, []⟩ (args0 0 [t0, t1]) w = vc44 R t0 t1 w := by kernel_rfl
theorem vk44 {R : Ending → World → Prop} {t0 t1 : Value} {w : World} (h : vc44 R t0 t1 w) : Calls Try.prog 44 #[t0, t1] w R :=
  calls_of_W mixed (fn := Try.f44) (c := bodyOf Try.f44) (by kernel_rfl) (by kernel_rfl) an44 (args := [t0, t1]) (by kernel_rfl) (by rw [vw44]; exact h)

/-- (*vault/vaultlaw.Books).reads -/
def vc16 (R : Ending → World → Prop) (t0 : Value) (w : World) : Prop :=
  (loopK 1 (fun (N1 : Value → World → Prop) (t3 : Value) (w : World) =>
    opK Try.prog (.nilCheck (.const t0)) 0 w fun t11 w =>
    opK Try.prog (.fieldAddr 47 (.const t11) 0) 0 w fun t12 w =>
    ld1 t12 w fun t13 w =>
    opK Try.prog (.call ⟨(.builtin .len), #[(.const t13)], #[40]⟩) 3 w fun t14 w =>
    opK Try.prog (.binOp .lss 3 (.const t3) (.const t14) 3) 4 w fun t15 w =>
    boolK t15
      ((loopK 1 (fun (N2 : Value → World → Prop) (t4 : Value) (w : World) =>
        opK Try.prog (.nilCheck (.const t0)) 0 w fun t20 w =>
        opK Try.prog (.fieldAddr 47 (.const t20) 0) 0 w fun t21 w =>
        ld1 t21 w fun t22 w =>
        opK Try.prog (.indexAddr 40 (.const t22) (.const t3)) 0 w fun t24 w =>
        ld1 t24 w fun t25 w =>
        opK Try.prog (.call ⟨(.builtin .len), #[(.const t25)], #[69]⟩) 3 w fun t26 w =>
        opK Try.prog (.binOp .lss 3 (.const t4) (.const t26) 3) 4 w fun t27 w =>
        boolK t27
          (opK Try.prog (.nilCheck (.const t0)) 0 w fun t31 w =>
          opK Try.prog (.fieldAddr 47 (.const t31) 0) 0 w fun t32 w =>
          ld1 t32 w fun t33 w =>
          opK Try.prog (.indexAddr 40 (.const t33) (.const t3)) 0 w fun t35 w =>
          ld1 t35 w fun t36 w =>
          opK Try.prog (.indexAddr 69 (.const t36) (.const t4)) 0 w fun t38 w =>
          ld1 t38 w fun t39 w =>
          opK Try.prog (.binOp .quo 3 (.const t3) (.const (.int .i64 2)) 3) 3 w fun t41 w =>
          opK Try.prog (.binOp .sub 3 (.const (.int .i64 (-77))) (.const t41) 3) 3 w fun t42 w =>
          opK Try.prog (.binOp .neq 3 (.const t39) (.const t42) 3) 4 w fun t43 w =>
          boolK t43
            (R (.returned (.bool false)) w)
            (opK Try.prog (.binOp .add 3 (.const t4) (.const (.int .i64 1)) 3) 3 w fun t29 w =>
            N2 t29 w))
          (opK Try.prog (.binOp .add 3 (.const t3) (.const (.int .i64 1)) 3) 3 w fun t17 w =>
          N1 t17 w)) : Value → World → Prop) (.int .i64 0) w)
      ((loopK 1 (fun (N3 : Value → World → Prop) (t5 : Value) (w : World) =>
        opK Try.prog (.nilCheck (.const t0)) 0 w fun t46 w =>
        opK Try.prog (.fieldAddr 47 (.const t46) 1) 0 w fun t47 w =>
        ld1 t47 w fun t48 w =>
        opK Try.prog (.call ⟨(.builtin .len), #[(.const t48)], #[41]⟩) 3 w fun t49 w =>
        opK Try.prog (.binOp .lss 3 (.const t5) (.const t49) 3) 4 w fun t50 w =>
        boolK t50
          ((loopK 1 (fun (N4 : Value → World → Prop) (t6 : Value) (w : World) =>
            opK Try.prog (.nilCheck (.const t0)) 0 w fun t55 w =>
            opK Try.prog (.fieldAddr 47 (.const t55) 1) 0 w fun t56 w =>
            ld1 t56 w fun t57 w =>
            opK Try.prog (.indexAddr 41 (.const t57) (.const t5)) 0 w fun t59 w =>
            ld1 t59 w fun t60 w =>
            opK Try.prog (.call ⟨(.builtin .len), #[(.const t60)], #[115]⟩) 3 w fun t61 w =>
            opK Try.prog (.binOp .lss 3 (.const t6) (.const t61) 3) 4 w fun t62 w =>
            boolK t62
              (opK Try.prog (.nilCheck (.const t0)) 0 w fun t66 w =>
              opK Try.prog (.fieldAddr 47 (.const t66) 1) 0 w fun t67 w =>
              ld1 t67 w fun t68 w =>
              opK Try.prog (.indexAddr 41 (.const t68) (.const t5)) 0 w fun t70 w =>
              ld1 t70 w fun t71 w =>
              opK Try.prog (.indexAddr 115 (.const t71) (.const t6)) 0 w fun t73 w =>
              opK Try.prog (.fieldAddr 117 (.const t73) 0) 0 w fun t74 w =>
              ld1 t74 w fun t75 w =>
              opK Try.prog (.binOp .quo 3 (.const t5) (.const (.int .i64 2)) 3) 3 w fun t77 w =>
              opK Try.prog (.binOp .sub 3 (.const (.int .i64 (-77))) (.const t77) 3) 3 w fun t78 w =>
              opK Try.prog (.binOp .neq 3 (.const t75) (.const t78) 3) 4 w fun t79 w =>
              boolK t79
                (R (.returned (.bool false)) w)
                (opK Try.prog (.binOp .add 3 (.const t6) (.const (.int .i64 1)) 3) 3 w fun t64 w =>
                N4 t64 w))
              (opK Try.prog (.binOp .add 3 (.const t5) (.const (.int .i64 1)) 3) 3 w fun t52 w =>
              N3 t52 w)) : Value → World → Prop) (.int .i64 0) w)
          ((loopK 1 (fun (N5 : Value → World → Prop) (t7 : Value) (w : World) =>
            opK Try.prog (.nilCheck (.const t0)) 0 w fun t82 w =>
            opK Try.prog (.fieldAddr 47 (.const t82) 2) 0 w fun t83 w =>
            ld1 t83 w fun t84 w =>
            opK Try.prog (.call ⟨(.builtin .len), #[(.const t84)], #[42]⟩) 3 w fun t85 w =>
            opK Try.prog (.binOp .lss 3 (.const t7) (.const t85) 3) 4 w fun t86 w =>
            boolK t86
              ((loopK 1 (fun (N6 : Value → World → Prop) (t8 : Value) (w : World) =>
                opK Try.prog (.nilCheck (.const t0)) 0 w fun t91 w =>
                opK Try.prog (.fieldAddr 47 (.const t91) 2) 0 w fun t92 w =>
                ld1 t92 w fun t93 w =>
                opK Try.prog (.indexAddr 42 (.const t93) (.const t7)) 0 w fun t95 w =>
                ld1 t95 w fun t96 w =>
                opK Try.prog (.call ⟨(.builtin .len), #[(.const t96)], #[118]⟩) 3 w fun t97 w =>
                opK Try.prog (.binOp .lss 3 (.const t8) (.const t97) 3) 4 w fun t98 w =>
                boolK t98
                  (opK Try.prog (.nilCheck (.const t0)) 0 w fun t102 w =>
                  opK Try.prog (.fieldAddr 47 (.const t102) 2) 0 w fun t103 w =>
                  ld1 t103 w fun t104 w =>
                  opK Try.prog (.indexAddr 42 (.const t104) (.const t7)) 0 w fun t106 w =>
                  ld1 t106 w fun t107 w =>
                  opK Try.prog (.indexAddr 118 (.const t107) (.const t8)) 0 w fun t109 w =>
                  opK Try.prog (.fieldAddr 120 (.const t109) 1) 0 w fun t110 w =>
                  ld1 t110 w fun t111 w =>
                  opK Try.prog (.binOp .quo 3 (.const t7) (.const (.int .i64 2)) 3) 3 w fun t113 w =>
                  opK Try.prog (.binOp .sub 3 (.const (.int .i64 (-77))) (.const t113) 3) 3 w fun t114 w =>
                  opK Try.prog (.binOp .neq 3 (.const t111) (.const t114) 3) 4 w fun t115 w =>
                  boolK t115
                    (R (.returned (.bool false)) w)
                    (opK Try.prog (.binOp .add 3 (.const t8) (.const (.int .i64 1)) 3) 3 w fun t100 w =>
                    N6 t100 w))
                  (opK Try.prog (.binOp .add 3 (.const t7) (.const (.int .i64 1)) 3) 3 w fun t88 w =>
                  N5 t88 w)) : Value → World → Prop) (.int .i64 0) w)
              (callK Try.prog 54 #[t0] w fun t117 w =>
              R (.returned t117) w)) : Value → World → Prop) (.int .i64 0) w)) : Value → World → Prop) (.int .i64 0) w)) : Value → World → Prop) (.int .i64 0) w
def an16 : Ann := (.cut [0] .no (.cut [0] (.cut [0, 3] .no (.one (.loop [3] (.cut [0, 3] (.cut [0, 3, 15] .no (.two .no .no)) (.cut [0, 3] (.one (.cut [0, 3, 4] .no (.one (.loop [4] (.cut [0, 3, 4] (.cut [0, 3, 4, 27] .no (.two .no .no)) (.cut [0, 3, 4] (.one (.cut [0, 3, 4, 43] .no (.two (.cut [2] .no .no) .no))) .no)))))) .no))))) (.cut [0] (.cut [0, 5] .no (.one (.loop [5] (.cut [0, 5] (.cut [0, 5, 50] .no (.two .no .no)) (.cut [0, 5] (.one (.cut [0, 5, 6] .no (.one (.loop [6] (.cut [0, 5, 6] (.cut [0, 5, 6, 62] .no (.two .no .no)) (.cut [0, 5, 6] (.one (.cut [0, 5, 6, 79] .no (.two (.cut [2] .no .no) .no))) .no)))))) .no))))) (.cut [0] (.cut [0, 7] .no (.one (.loop [7] (.cut [0, 7] (.cut [0, 7, 86] .no (.two .no .no)) (.cut [0, 7] (.one (.cut [0, 7, 8] .no (.one (.loop [8] (.cut [0, 7, 8] (.cut [0, 7, 8, 98] .no (.two .no .no)) (.cut [0, 7, 8] (.one (.cut [0, 7, 8, 115] .no (.two (.cut [2] .no .no) .no))) .no)))))) .no))))) (.cut [2] .no .no)))))
theorem vw16 (R : Ending → World → Prop) (t0 : Value) (w : World) : W Try.prog Try.f16.ntmps (bodyOf Try.f16) an16 ⟨retK Try.prog Try.f16.results.toList fun v w => R (.returned v) w, retK Try.prog Try.f16.results.toList fun v w => R (.returned v) w, []⟩ (args0 0 [t0]) w = vc16 R t0 w := by kernel_rfl
theorem vk16 {R : Ending → World → Prop} {t0 : Value} {w : World} (h : vc16 R t0 w) : Calls Try.prog 16 #[t0] w R :=
  calls_of_W mixed (fn := Try.f16) (c := bodyOf Try.f16) (by kernel_rfl) (by kernel_rfl) an16 (args := [t0]) (by kernel_rfl) (by rw [vw16]; exact h)

/-- (*vault/vaultlaw.Books).readsMore -/
def vc54 (R : Ending → World → Prop) (t0 : Value) (w : World) : Prop :=
  (loopK 1 (fun (N1 : Value → World → Prop) (t3 : Value) (w : World) =>
    opK Try.prog (.nilCheck (.const t0)) 0 w fun t11 w =>
    opK Try.prog (.fieldAddr 47 (.const t11) 3) 0 w fun t12 w =>
    ld1 t12 w fun t13 w =>
    opK Try.prog (.call ⟨(.builtin .len), #[(.const t13)], #[43]⟩) 3 w fun t14 w =>
    opK Try.prog (.binOp .lss 3 (.const t3) (.const t14) 3) 4 w fun t15 w =>
    boolK t15
      ((loopK 1 (fun (N2 : Value → World → Prop) (t4 : Value) (w : World) =>
        opK Try.prog (.nilCheck (.const t0)) 0 w fun t20 w =>
        opK Try.prog (.fieldAddr 47 (.const t20) 3) 0 w fun t21 w =>
        ld1 t21 w fun t22 w =>
        opK Try.prog (.indexAddr 43 (.const t22) (.const t3)) 0 w fun t24 w =>
        ld1 t24 w fun t25 w =>
        opK Try.prog (.call ⟨(.builtin .len), #[(.const t25)], #[146]⟩) 3 w fun t26 w =>
        opK Try.prog (.binOp .lss 3 (.const t4) (.const t26) 3) 4 w fun t27 w =>
        boolK t27
          (opK Try.prog (.nilCheck (.const t0)) 0 w fun t31 w =>
          opK Try.prog (.fieldAddr 47 (.const t31) 3) 0 w fun t32 w =>
          ld1 t32 w fun t33 w =>
          opK Try.prog (.indexAddr 43 (.const t33) (.const t3)) 0 w fun t35 w =>
          ld1 t35 w fun t36 w =>
          opK Try.prog (.indexAddr 146 (.const t36) (.const t4)) 0 w fun t38 w =>
          opK Try.prog (.fieldAddr 84 (.const t38) 1) 0 w fun t39 w =>
          ld1 t39 w fun t40 w =>
          opK Try.prog (.binOp .quo 3 (.const t3) (.const (.int .i64 2)) 3) 3 w fun t42 w =>
          opK Try.prog (.binOp .sub 3 (.const (.int .i64 (-77))) (.const t42) 3) 3 w fun t43 w =>
          opK Try.prog (.binOp .neq 3 (.const t40) (.const t43) 3) 4 w fun t44 w =>
          boolK t44
            (R (.returned (.bool false)) w)
            (opK Try.prog (.binOp .add 3 (.const t4) (.const (.int .i64 1)) 3) 3 w fun t29 w =>
            N2 t29 w))
          (opK Try.prog (.binOp .add 3 (.const t3) (.const (.int .i64 1)) 3) 3 w fun t17 w =>
          N1 t17 w)) : Value → World → Prop) (.int .i64 0) w)
      ((loopK 1 (fun (N3 : Value → World → Prop) (t5 : Value) (w : World) =>
        opK Try.prog (.nilCheck (.const t0)) 0 w fun t47 w =>
        opK Try.prog (.fieldAddr 47 (.const t47) 4) 0 w fun t48 w =>
        ld1 t48 w fun t49 w =>
        opK Try.prog (.call ⟨(.builtin .len), #[(.const t49)], #[44]⟩) 3 w fun t50 w =>
        opK Try.prog (.binOp .lss 3 (.const t5) (.const t50) 3) 4 w fun t51 w =>
        boolK t51
          ((loopK 1 (fun (N4 : Value → World → Prop) (t6 : Value) (w : World) =>
            opK Try.prog (.nilCheck (.const t0)) 0 w fun t56 w =>
            opK Try.prog (.fieldAddr 47 (.const t56) 4) 0 w fun t57 w =>
            ld1 t57 w fun t58 w =>
            opK Try.prog (.indexAddr 44 (.const t58) (.const t5)) 0 w fun t60 w =>
            ld1 t60 w fun t61 w =>
            opK Try.prog (.call ⟨(.builtin .len), #[(.const t61)], #[175]⟩) 3 w fun t62 w =>
            opK Try.prog (.binOp .lss 3 (.const t6) (.const t62) 3) 4 w fun t63 w =>
            boolK t63
              (opK Try.prog (.nilCheck (.const t0)) 0 w fun t67 w =>
              opK Try.prog (.fieldAddr 47 (.const t67) 4) 0 w fun t68 w =>
              ld1 t68 w fun t69 w =>
              opK Try.prog (.indexAddr 44 (.const t69) (.const t5)) 0 w fun t71 w =>
              ld1 t71 w fun t72 w =>
              opK Try.prog (.indexAddr 175 (.const t72) (.const t6)) 0 w fun t74 w =>
              opK Try.prog (.fieldAddr 179 (.const t74) 0) 0 w fun t75 w =>
              opK Try.prog (.fieldAddr 117 (.const t75) 0) 0 w fun t76 w =>
              ld1 t76 w fun t77 w =>
              opK Try.prog (.binOp .quo 3 (.const t5) (.const (.int .i64 2)) 3) 3 w fun t79 w =>
              opK Try.prog (.binOp .sub 3 (.const (.int .i64 (-77))) (.const t79) 3) 3 w fun t80 w =>
              opK Try.prog (.binOp .neq 3 (.const t77) (.const t80) 3) 4 w fun t81 w =>
              boolK t81
                (R (.returned (.bool false)) w)
                (opK Try.prog (.binOp .add 3 (.const t6) (.const (.int .i64 1)) 3) 3 w fun t65 w =>
                N4 t65 w))
              (opK Try.prog (.binOp .add 3 (.const t5) (.const (.int .i64 1)) 3) 3 w fun t53 w =>
              N3 t53 w)) : Value → World → Prop) (.int .i64 0) w)
          ((loopK 1 (fun (N5 : Value → World → Prop) (t7 : Value) (w : World) =>
            opK Try.prog (.nilCheck (.const t0)) 0 w fun t84 w =>
            opK Try.prog (.fieldAddr 47 (.const t84) 5) 0 w fun t85 w =>
            ld1 t85 w fun t86 w =>
            opK Try.prog (.call ⟨(.builtin .len), #[(.const t86)], #[45]⟩) 3 w fun t87 w =>
            opK Try.prog (.binOp .lss 3 (.const t7) (.const t87) 3) 4 w fun t88 w =>
            boolK t88
              ((loopK 1 (fun (N6 : Value → World → Prop) (t8 : Value) (w : World) =>
                opK Try.prog (.nilCheck (.const t0)) 0 w fun t93 w =>
                opK Try.prog (.fieldAddr 47 (.const t93) 5) 0 w fun t94 w =>
                ld1 t94 w fun t95 w =>
                opK Try.prog (.indexAddr 45 (.const t95) (.const t7)) 0 w fun t97 w =>
                ld1 t97 w fun t98 w =>
                opK Try.prog (.call ⟨(.builtin .len), #[(.const t98)], #[180]⟩) 3 w fun t99 w =>
                opK Try.prog (.binOp .lss 3 (.const t8) (.const t99) 3) 4 w fun t100 w =>
                boolK t100
                  (opK Try.prog (.nilCheck (.const t0)) 0 w fun t104 w =>
                  opK Try.prog (.fieldAddr 47 (.const t104) 5) 0 w fun t105 w =>
                  ld1 t105 w fun t106 w =>
                  opK Try.prog (.indexAddr 45 (.const t106) (.const t7)) 0 w fun t108 w =>
                  ld1 t108 w fun t109 w =>
                  opK Try.prog (.indexAddr 180 (.const t109) (.const t8)) 0 w fun t111 w =>
                  opK Try.prog (.fieldAddr 185 (.const t111) 0) 0 w fun t112 w =>
                  ld1 t112 w fun t113 w =>
                  opK Try.prog (.binOp .quo 3 (.const t7) (.const (.int .i64 2)) 3) 3 w fun t115 w =>
                  opK Try.prog (.binOp .sub 3 (.const (.int .i64 (-77))) (.const t115) 3) 3 w fun t116 w =>
                  opK Try.prog (.binOp .neq 3 (.const t113) (.const t116) 3) 4 w fun t117 w =>
                  boolK t117
                    (R (.returned (.bool false)) w)
                    (opK Try.prog (.binOp .add 3 (.const t8) (.const (.int .i64 1)) 3) 3 w fun t102 w =>
                    N6 t102 w))
                  (opK Try.prog (.binOp .add 3 (.const t7) (.const (.int .i64 1)) 3) 3 w fun t90 w =>
                  N5 t90 w)) : Value → World → Prop) (.int .i64 0) w)
              (R (.returned (.bool true)) w)) : Value → World → Prop) (.int .i64 0) w)) : Value → World → Prop) (.int .i64 0) w)) : Value → World → Prop) (.int .i64 0) w
def an54 : Ann := (.cut [0] .no (.cut [0] (.cut [0, 3] .no (.one (.loop [3] (.cut [0, 3] (.cut [0, 3, 15] .no (.two .no .no)) (.cut [0, 3] (.one (.cut [0, 3, 4] .no (.one (.loop [4] (.cut [0, 3, 4] (.cut [0, 3, 4, 27] .no (.two .no .no)) (.cut [0, 3, 4] (.one (.cut [0, 3, 4, 44] .no (.two (.cut [2] .no .no) .no))) .no)))))) .no))))) (.cut [0] (.cut [0, 5] .no (.one (.loop [5] (.cut [0, 5] (.cut [0, 5, 51] .no (.two .no .no)) (.cut [0, 5] (.one (.cut [0, 5, 6] .no (.one (.loop [6] (.cut [0, 5, 6] (.cut [0, 5, 6, 63] .no (.two .no .no)) (.cut [0, 5, 6] (.one (.cut [0, 5, 6, 81] .no (.two (.cut [2] .no .no) .no))) .no)))))) .no))))) (.cut [] (.cut [0, 7] .no (.one (.loop [7] (.cut [0, 7] (.cut [0, 7, 88] .no (.two .no .no)) (.cut [0, 7] (.one (.cut [0, 7, 8] .no (.one (.loop [8] (.cut [0, 7, 8] (.cut [0, 7, 8, 100] .no (.two .no .no)) (.cut [0, 7, 8] (.one (.cut [0, 7, 8, 117] .no (.two (.cut [2] .no .no) .no))) .no)))))) .no))))) (.cut [2] .no .no)))))
theorem vw54 (R : Ending → World → Prop) (t0 : Value) (w : World) : W Try.prog Try.f54.ntmps (bodyOf Try.f54) an54 ⟨retK Try.prog Try.f54.results.toList fun v w => R (.returned v) w, retK Try.prog Try.f54.results.toList fun v w => R (.returned v) w, []⟩ (args0 0 [t0]) w = vc54 R t0 w := by kernel_rfl
theorem vk54 {R : Ending → World → Prop} {t0 : Value} {w : World} (h : vc54 R t0 w) : Calls Try.prog 54 #[t0] w R :=
  calls_of_W mixed (fn := Try.f54) (c := bodyOf Try.f54) (by kernel_rfl) (by kernel_rfl) an54 (args := [t0]) (by kernel_rfl) (by rw [vw54]; exact h)

/-- (*vault/vaultlaw.Books).ownInts -/
def vc51 (R : Ending → World → Prop) (t0 t1 : Value) (w : World) : Prop :=
  opK Try.prog (.nilCheck (.const t0)) 0 w fun t9 w =>
  opK Try.prog (.fieldAddr 47 (.const t9) 0) 0 w fun t10 w =>
  ld1 t10 w fun t11 w =>
  opK Try.prog (.call ⟨(.builtin .len), #[(.const t11)], #[40]⟩) 3 w fun t12 w =>
  opK Try.prog (.binOp .quo 3 (.const t12) (.const (.int .i64 2)) 3) 3 w fun t13 w =>
  opK Try.prog (.binOp .sub 3 (.const (.int .i64 (-77))) (.const t13) 3) 3 w fun t14 w =>
  (loopK 1 (fun (N1 : Value → World → Prop) (t5 : Value) (w : World) =>
    opK Try.prog (.call ⟨(.builtin .len), #[(.const t1)], #[69]⟩) 3 w fun t17 w =>
    opK Try.prog (.binOp .lss 3 (.const t5) (.const t17) 3) 4 w fun t18 w =>
    boolK t18
      (opK Try.prog (.indexAddr 69 (.const t1) (.const t5)) 0 w fun t24 w =>
      st1 t24 t14 w fun _ w =>
      opK Try.prog (.binOp .add 3 (.const t5) (.const (.int .i64 1)) 3) 3 w fun t20 w =>
      N1 t20 w)
      ((loopK 2 (fun (N2 : Value → Value → World → Prop) (t6 : Value) (t7 : Value) (w : World) =>
        opK Try.prog (.binOp .lss 3 (.const t7) (.const (.int .i64 33)) 3) 4 w fun t27 w =>
        boolK t27
          (opK Try.prog (.buildSlice 69 1 #[(0, (.const t14))]) 69 w fun t32 w =>
          opK Try.prog (.call ⟨(.builtin .append), #[(.const t6), (.const t32)], #[69, 69]⟩) 69 w fun t33 w =>
          opK Try.prog (.binOp .add 3 (.const t7) (.const (.int .i64 1)) 3) 3 w fun t29 w =>
          N2 t33 t29 w)
          (opK Try.prog (.nilCheck (.const t0)) 0 w fun t36 w =>
          opK Try.prog (.fieldAddr 47 (.const t36) 0) 0 w fun t37 w =>
          ld1 t37 w fun t38 w =>
          opK Try.prog (.buildSlice 40 2 #[(0, (.const t1)), (1, (.const t6))]) 40 w fun t41 w =>
          opK Try.prog (.call ⟨(.builtin .append), #[(.const t38), (.const t41)], #[40, 40]⟩) 40 w fun t42 w =>
          opK Try.prog (.nilCheck (.const t0)) 0 w fun t43 w =>
          opK Try.prog (.fieldAddr 47 (.const t43) 0) 0 w fun t44 w =>
          st1 t44 t42 w fun _ w =>
          R (.returned (.tuple #[])) w)) : Value → Value → World → Prop) t1 (.int .i64 0) w)) : Value → World → Prop) (.int .i64 0) w
def an51 : Ann := (.seq none .no (.seq none (.seq none .no (.one (.loop [5] (.seq none (.seq none .no (.two .no .no)) (.seq none (.one .no) .no))))) (.seq none .no (.seq none (.seq none .no (.one (.loop [6, 7] (.seq none (.seq none .no (.two .no .no)) (.seq none (.one .no) .no))))) .no))))
theorem vw51 (R : Ending → World → Prop) (t0 t1 : Value) (w : World) : W Try.prog Try.f51.ntmps (bodyOf Try.f51) an51 ⟨retK Try.prog Try.f51.results.toList fun v w => R (.returned v) w, retK Try.prog Try.f51.results.toList fun v w => R (.returned v) w, []⟩ (args0 0 [t0, t1]) w = vc51 R t0 t1 w := by kernel_rfl
theorem vk51 {R : Ending → World → Prop} {t0 t1 : Value} {w : World} (h : vc51 R t0 t1 w) : Calls Try.prog 51 #[t0, t1] w R :=
  calls_of_W mixed (fn := Try.f51) (c := bodyOf Try.f51) (by kernel_rfl) (by kernel_rfl) an51 (args := [t0, t1]) (by kernel_rfl) (by rw [vw51]; exact h)

/-- vault/vaultlaw.sameInts -/
def vc50 (R : Ending → World → Prop) (t0 t1 : Value) (w : World) : Prop :=
  opK Try.prog (.call ⟨(.builtin .len), #[(.const t0)], #[69]⟩) 3 w fun t7 w =>
  opK Try.prog (.call ⟨(.builtin .len), #[(.const t1)], #[69]⟩) 3 w fun t9 w =>
  opK Try.prog (.binOp .neq 3 (.const t7) (.const t9) 3) 4 w fun t10 w =>
  boolK t10
    (R (.returned (.bool false)) w)
    ((loopK 1 (fun (N1 : Value → World → Prop) (t5 : Value) (w : World) =>
      opK Try.prog (.call ⟨(.builtin .len), #[(.const t0)], #[69]⟩) 3 w fun t13 w =>
      opK Try.prog (.binOp .lss 3 (.const t5) (.const t13) 3) 4 w fun t14 w =>
      boolK t14
        (stK Try.prog (.indexAddr 69 (.const t0) (.const t5)) 0 w.drew fun t19 =>
        ld1 t19 w.drew fun t20 _ =>
        stK Try.prog (.indexAddr 69 (.const t1) (.const t5)) 0 w.drew fun t23 =>
        ld1 t23 w.drew fun t24 _ =>
        stK Try.prog (.binOp .neq 3 (.const t20) (.const t24) 3) 4 w.drew fun t25 =>
        boolK t25
          (R (.returned (.bool false)) w.drew)
          (opK Try.prog (.binOp .add 3 (.const t5) (.const (.int .i64 1)) 3) 3 w.drew fun t16 w =>
          N1 t16 w))
        (R (.returned (.bool true)) w)) : Value → World → Prop) (.int .i64 0) w)
def an50 : Ann := (.seq none .no (.seq none (.seq none .no (.two (.seq none .no .no) .no)) (.seq none (.seq none .no (.one (.loop [5] (.seq none (.seq none .no (.two .no .no)) (.seq none (.one (.seq none (.draw 9) (.two (.seq none .no .no) .no))) .no))))) (.seq none .no .no))))
theorem vw50 (R : Ending → World → Prop) (t0 t1 : Value) (w : World) : W Try.prog Try.f50.ntmps (bodyOf Try.f50) an50 ⟨retK Try.prog Try.f50.results.toList fun v w => R (.returned v) w, retK Try.prog Try.f50.results.toList fun v w => R (.returned v) w, []⟩ (args0 0 [t0, t1]) w = vc50 R t0 t1 w := by kernel_rfl
theorem vk50 {R : Ending → World → Prop} {t0 t1 : Value} {w : World} (h : vc50 R t0 t1 w) : Calls Try.prog 50 #[t0, t1] w R :=
  calls_of_W mixed (fn := Try.f50) (c := bodyOf Try.f50) (by kernel_rfl) (by kernel_rfl) an50 (args := [t0, t1]) (by kernel_rfl) (by rw [vw50]; exact h)

end Go.Proofs.Ytaniphdbebdhhaa
