/-
  No cell of these rows narrows 'for every input' (looked for: loops, veiled, ifaces, maps, wideKeys, modest, calm, conditions, laid).
  DERIVED. THE GIVEN ROWS OF THIS SEAT. 4 by the template 'for every input the law returns true; each argument reads behind the call as it read before'; 0 by the template 'total and deterministic' (their statements: YtaniphdbebdhhaaTotals.lean).
  GIVEN WITH THE SEED: the statements are not yours to turn. If you find one false, say at which input.
  Laid BY PROGRAM, IN A SANDBOX (cutbox-rows.mjs): the forced cells as the released guide's own fill.sh prints them over the translation 4df995fffa56ef8a… (all of the seat's roots in one cut). By AI agents, Wed Nov 11 2026. No macro, syntax, notation, axiom, sorry.
-/
import Derived.Test.YtaniphdbebdhhaaChecked
import GoSem.Claim
import GoSem.ClaimJoined
import GoSem.ClaimMapViews
import Derived.JoinedTies
import Derived.KernelRfl
namespace Go.Proofs.Ytaniphdbebdhhaa
/- THE CELL 'sum', in the pinned program and in every row, IS THE sha256 OF THE DUMP (.gsa) THAT YtaniphdbebdhhaaProg.lean LOADS. Nothing in Lean hashes anything: it is a label: what it is worth is what the hold of that sum in a sandbox is worth. -/
noncomputable def Try.pinned : Pinned := { name := "ytaniphdbebdhhaa", sum := "4df995fffa56ef8ae4deffc162bcdf5d420226d4129fba4ed5db5a0358b9667b", checked := Try.checked }
namespace Rows
def none {H : Type} : Left H := { results := [], args := [] }

/-- 'vaultlaw.IsaNames': WHATEVER THE INPUT: true; the input reads as it did. -/
def isaNamesSpec : ChangeSpec := { name := "isaNames", fn := fun _ => fun
  | [] => { results := [.lit (.bool true)], args := [] }
  | _ => none }
def isaNamesRow : OpenClaim := { program := "ytaniphdbebdhhaa", sum := "4df995fffa56ef8ae4deffc162bcdf5d420226d4129fba4ed5db5a0358b9667b", func := "vault/vaultlaw.IsaNames", spec := "isaNames", apart := false }
def IsaNamesSaid : Prop := isaNamesRow.holds Try.pinned (OpenSpec.ofChange isaNamesSpec)

/-- ITS FALSE NEIGHBOUR: 'it returns false'. Refute it at one input. -/
def isaNamesWrong : ChangeSpec := { name := "isaNames", fn := fun _ => fun
  | [] => { results := [.lit (.bool false)], args := [] }
  | _ => none }
def IsaNamesWrongFalsely : Prop := isaNamesRow.holds Try.pinned (OpenSpec.ofChange isaNamesWrong)

/-- 'vaultlaw.SchedScripts': WHATEVER THE INPUT: true; the input reads as it did. -/
def schedScriptsSpec : ChangeSpec := { name := "schedScripts", fn := fun _ => fun
  | [d1, d2] => { results := [.lit (.bool true)], args := [d1, d2] }
  | _ => none }
def schedScriptsRow : OpenClaim := { program := "ytaniphdbebdhhaa", sum := "4df995fffa56ef8ae4deffc162bcdf5d420226d4129fba4ed5db5a0358b9667b", func := "vault/vaultlaw.SchedScripts", spec := "schedScripts", unfollowed := true, recurses := true, apart := false }
def SchedScriptsSaid : Prop := schedScriptsRow.holds Try.pinned (OpenSpec.ofChange schedScriptsSpec)

/-- ITS FALSE NEIGHBOUR: 'it returns false'. Refute it at one input. -/
def schedScriptsWrong : ChangeSpec := { name := "schedScripts", fn := fun _ => fun
  | [d1, d2] => { results := [.lit (.bool false)], args := [d1, d2] }
  | _ => none }
def SchedScriptsWrongFalsely : Prop := schedScriptsRow.holds Try.pinned (OpenSpec.ofChange schedScriptsWrong)

/-- 'vaultlaw.IpcScripts': WHATEVER THE INPUT: true; the input reads as it did. -/
def ipcScriptsSpec : ChangeSpec := { name := "ipcScripts", fn := fun _ => fun
  | [d] => { results := [.lit (.bool true)], args := [d] }
  | _ => none }
def ipcScriptsRow : OpenClaim := { program := "ytaniphdbebdhhaa", sum := "4df995fffa56ef8ae4deffc162bcdf5d420226d4129fba4ed5db5a0358b9667b", func := "vault/vaultlaw.IpcScripts", spec := "ipcScripts", unfollowed := true, recurses := true, apart := false }
def IpcScriptsSaid : Prop := ipcScriptsRow.holds Try.pinned (OpenSpec.ofChange ipcScriptsSpec)

/-- ITS FALSE NEIGHBOUR: 'it returns false'. Refute it at one input. -/
def ipcScriptsWrong : ChangeSpec := { name := "ipcScripts", fn := fun _ => fun
  | [d] => { results := [.lit (.bool false)], args := [d] }
  | _ => none }
def IpcScriptsWrongFalsely : Prop := ipcScriptsRow.holds Try.pinned (OpenSpec.ofChange ipcScriptsWrong)

/-- 'vaultlaw.PoolScripts': WHATEVER THE INPUT: true; the input reads as it did. -/
def poolScriptsSpec : ChangeSpec := { name := "poolScripts", fn := fun _ => fun
  | [d1, d2] => { results := [.lit (.bool true)], args := [d1, d2] }
  | _ => none }
def poolScriptsRow : OpenClaim := { program := "ytaniphdbebdhhaa", sum := "4df995fffa56ef8ae4deffc162bcdf5d420226d4129fba4ed5db5a0358b9667b", func := "vault/vaultlaw.PoolScripts", spec := "poolScripts", unfollowed := true, recurses := true, apart := false }
def PoolScriptsSaid : Prop := poolScriptsRow.holds Try.pinned (OpenSpec.ofChange poolScriptsSpec)

/-- ITS FALSE NEIGHBOUR: 'it returns false'. Refute it at one input. -/
def poolScriptsWrong : ChangeSpec := { name := "poolScripts", fn := fun _ => fun
  | [d1, d2] => { results := [.lit (.bool false)], args := [d1, d2] }
  | _ => none }
def PoolScriptsWrongFalsely : Prop := poolScriptsRow.holds Try.pinned (OpenSpec.ofChange poolScriptsWrong)

/- THE SECOND FORM. 'bulk': how many values and letters a reading holds, each counted each time it is reached (what is shared counts as often as it is met; a slice's spare places count too). A statement '..UptoSaid' is the law's where the arguments, and the package variables that the reading takes, are together of bulk at most 1048576: NARROWER than '..Said'. Prove '..Said' where nothing that the law and all that it calls make is longer than what came in: it says more and counts as full. Else prove '..UptoSaid'. A law counts once. -/
mutual
def uptoBulk {H : Type} : DataW H → Nat
  | .lit (.string bytes) => bytes.length + 1
  | .lit _ => 1
  | .nil => 1
  | .ptr d => uptoBulk d + 1
  | .slice elems spare => uptoBulkAll elems + uptoBulkAll spare + 1
  | .agg parts => uptoBulkAll parts + 1
  | .iface _ d => uptoBulk d + 1
  | .map entries => uptoBulkEntries entries + 1
  | .held _ => 1
def uptoBulkAll {H : Type} : List (DataW H) → Nat
  | [] => 0
  | d :: r => uptoBulk d + uptoBulkAll r
def uptoBulkEntries {H : Type} : List (Lit × DataW H) → Nat
  | [] => 0
  | x :: r => uptoBulkEntry x + uptoBulkEntries r
def uptoBulkEntry {H : Type} : Lit × DataW H → Nat
  | (.string bytes, d) => bytes.length + uptoBulk d + 1
  | (_, d) => uptoBulk d + 1
 end
def uptoSmall : (H : Type) → List (DataW H) → Bool := fun _ ds => decide (uptoBulkAll ds ≤ 1048576)
def OpenSpec.upto (s : _root_.Go.ChangeSpec) : _root_.Go.OpenSpec := { _root_.Go.OpenSpec.ofChange s with cond := some uptoSmall }

/-- 'vaultlaw.IsaNames', WHERE WHAT IT READS IS OF BULK AT MOST 1048576: true; the input reads as it did. -/
def isaNamesUptoRow : OpenClaim := { program := "ytaniphdbebdhhaa", sum := "4df995fffa56ef8ae4deffc162bcdf5d420226d4129fba4ed5db5a0358b9667b", func := "vault/vaultlaw.IsaNames", spec := "isaNames", apart := false, narrowed := true }
def IsaNamesUptoSaid : Prop := isaNamesUptoRow.holds Try.pinned (OpenSpec.upto isaNamesSpec)

/-- 'vaultlaw.SchedScripts', WHERE WHAT IT READS IS OF BULK AT MOST 1048576: true; the input reads as it did. -/
def schedScriptsUptoRow : OpenClaim := { program := "ytaniphdbebdhhaa", sum := "4df995fffa56ef8ae4deffc162bcdf5d420226d4129fba4ed5db5a0358b9667b", func := "vault/vaultlaw.SchedScripts", spec := "schedScripts", unfollowed := true, recurses := true, apart := false, narrowed := true }
def SchedScriptsUptoSaid : Prop := schedScriptsUptoRow.holds Try.pinned (OpenSpec.upto schedScriptsSpec)

/-- 'vaultlaw.IpcScripts', WHERE WHAT IT READS IS OF BULK AT MOST 1048576: true; the input reads as it did. -/
def ipcScriptsUptoRow : OpenClaim := { program := "ytaniphdbebdhhaa", sum := "4df995fffa56ef8ae4deffc162bcdf5d420226d4129fba4ed5db5a0358b9667b", func := "vault/vaultlaw.IpcScripts", spec := "ipcScripts", unfollowed := true, recurses := true, apart := false, narrowed := true }
def IpcScriptsUptoSaid : Prop := ipcScriptsUptoRow.holds Try.pinned (OpenSpec.upto ipcScriptsSpec)

/-- 'vaultlaw.PoolScripts', WHERE WHAT IT READS IS OF BULK AT MOST 1048576: true; the input reads as it did. -/
def poolScriptsUptoRow : OpenClaim := { program := "ytaniphdbebdhhaa", sum := "4df995fffa56ef8ae4deffc162bcdf5d420226d4129fba4ed5db5a0358b9667b", func := "vault/vaultlaw.PoolScripts", spec := "poolScripts", unfollowed := true, recurses := true, apart := false, narrowed := true }
def PoolScriptsUptoSaid : Prop := poolScriptsUptoRow.holds Try.pinned (OpenSpec.upto poolScriptsSpec)

end Rows
end Go.Proofs.Ytaniphdbebdhhaa
