/-
  What single operations come to: equations over any program. No condition. Written by a program of this session's (mkops.py).
-/
import Derived.Test.YtaniphdbebdhhaaVkW
namespace Go.Vk

theorem opK_of {P : Program} {op : Op} {ty : TypeId} {w w' : World} {K : Value → World → Prop} {v : Value}
    (h : (execOp bare { dst := none, op, type := ty, pos := "", after := #[], guard := none }).run P w = .ok (.value v) w') (hok : okOp op = true) : opK P op ty w K = K v w' := by
  unfold opK
  rw [hok]
  simp only [h, runK]

theorem opK_skip {P : Program} {op : Op} {ty : TypeId} {w w' : World} {K : Value → World → Prop}
    (h : (execOp bare { dst := none, op, type := ty, pos := "", after := #[], guard := none }).run P w = .ok .skip w') (hok : okOp op = true) : opK P op ty w K = K undef w' := by
  unfold opK
  rw [hok]
  simp only [h, runK]

theorem stK_of {P : Program} {op : Op} {ty : TypeId} {w : World} {K : Value → Prop} {v : Value}
    (h : (execOp bare { dst := none, op, type := ty, pos := "", after := #[], guard := none }).run P w = .ok (.value v) w) (hok : okOp op = true) : stK P op ty w K = K v := by
  unfold stK
  rw [hok]
  simp only [h, runS, true_and]

theorem eqIn_ptr {P : Program} {t e : TypeId} {a : Option Addr} (h : P.underlying t = some (.pointer e)) (d : Nat) (w : World) : (Op.equalIn (d + 1) t (.pointer a) (.pointer none)).run P w = .ok a.isNone w := by
  cases a <;> simp [Op.equalIn, underlying, h]
theorem eqIn_map {P : Program} {t e f : TypeId} {a : Option Nat} (h : P.underlying t = some (.map e f)) (d : Nat) (w : World) : (Op.equalIn (d + 1) t (.map a) (.map none)).run P w = .ok a.isNone w := by
  cases a <;> simp [Op.equalIn, underlying, h]
theorem eqIn_bool {P : Program} {t : TypeId} {a b : Bool} (h : P.underlying t = some .bool) (d : Nat) (w : World) : (Op.equalIn (d + 1) t (.bool a) (.bool b)).run P w = .ok (a == b) w := by
  simp [Op.equalIn, underlying, h]

theorem bin_eql {P : Program} {t u ty : TypeId} {x y : Value} {b : Bool} {w : World} (hg : eqGuard .eql t (.const x) (.const y) x y = pure ()) (hb : binOp .eql t x y = do pure (.bool (← Op.equal t x y)))
    (h : (Op.equal t x y).run P w = .ok b w) : (execOp bare { dst := none, op := .binOp .eql t (.const x) (.const y) u, type := ty, pos := "", after := #[], guard := none }).run P w = .ok (.value (.bool b)) w := by
  simp only [execOp, bare, Act.eval, hg, pure_bind, hb, Sem.run_bind, h, Result.andThen_ok, Sem.run_pure]

theorem bin_neq {P : Program} {t u ty : TypeId} {x y : Value} {b : Bool} {w : World} (hg : eqGuard .neq t (.const x) (.const y) x y = pure ()) (hb : binOp .neq t x y = do pure (.bool (!(← Op.equal t x y))))
    (h : (Op.equal t x y).run P w = .ok b w) : (execOp bare { dst := none, op := .binOp .neq t (.const x) (.const y) u, type := ty, pos := "", after := #[], guard := none }).run P w = .ok (.value (.bool (!b))) w := by
  simp only [execOp, bare, Act.eval, hg, pure_bind, hb, Sem.run_bind, h, Result.andThen_ok, Sem.run_pure]

/-- A value that is there where the guard lets it be. -/
def gv (b want : Bool) (v : Value) : Value := if b = want then v else undef

@[simp ↓] theorem boolK_bool (b : Bool) (A B : Prop) : boolK (.bool b) A B = if b = true then A else B := rfl
@[simp ↓] theorem valK_some (v : Value) (K : Value → Prop) : valK (some v) K = K v := rfl
@[simp ↓] theorem valsK_some (v : List Value) (K : List Value → Prop) : valsK (some v) K = K v := rfl
@[simp ↓] theorem blkK_cells (cs : Array Value) (T : TypeId) (fr : Nat × Nat) (K : Array Value → TypeId → Nat × Nat → Prop) : blkK (some (.cells cs T fr)) K = K cs T fr := rfl
@[simp ↓] theorem ld1_ptr (b o : Nat) (w : World) (K : Value → World → Prop) : ld1 (.pointer (some ⟨b, o, none⟩)) w K = blkK w.heap[b]? fun cs _ _ => valK cs[o]? fun v => K v w := rfl
@[simp ↓] theorem ldn_ptr (n b o : Nat) (w : World) (K : Value → World → Prop) : ldn n (.pointer (some ⟨b, o, none⟩)) w K = blkK w.heap[b]? fun cs _ _ => valsK (readN cs o n) fun vs => K (.agg vs.toArray) w := rfl
@[simp ↓] theorem st1_ptr (b o : Nat) (v : Value) (w : World) (K : Value → World → Prop) : st1 (.pointer (some ⟨b, o, none⟩)) v w K =
    blkK w.heap[b]? fun cs T fr => fr = (0, 0) ∧ o < cs.size ∧ v.oneCell' = true ∧ K undef (putB w b (.cells (cs.setIfInBounds o v) T (0, 0))) := rfl
@[simp ↓] theorem stn_ptr (n b o : Nat) (vs : Array Value) (w : World) (K : Value → World → Prop) : stn n (.pointer (some ⟨b, o, none⟩)) (.agg vs) w K =
    blkK w.heap[b]? fun cs T fr => fr = (0, 0) ∧ vs.size = n ∧ o + n ≤ cs.size ∧ vs.toList.all Value.oneCell' = true ∧ K undef (putB w b (.cells (writeN cs o vs.toList) T (0, 0))) := rfl
@[simp] theorem oneCell_int (k : IntKind) (x : Int) : (Value.int k x).oneCell' = true := rfl
@[simp] theorem oneCell_bool (x : Bool) : (Value.bool x).oneCell' = true := rfl
@[simp] theorem oneCell_pointer (x : Option Addr) : (Value.pointer x).oneCell' = true := rfl
@[simp] theorem oneCell_slice (x : Option Addr) (n c : Nat) : (Value.slice x n c).oneCell' = true := rfl
@[simp] theorem oneCell_map (x : Option Nat) : (Value.map x).oneCell' = true := rfl
@[simp] theorem oneCell_string (x : ByteArray) : (Value.string x).oneCell' = true := rfl
@[simp] theorem oneCell_func (f : Go.Fn) (a b : Array Value) : (Value.func f a b).oneCell' = true := rfl

/-- Guards: what only computes goes on with a value that is there or not; all else parts the ways. -/
@[simp ↓ low] theorem gK_bool (b want : Bool) (w : World) (run : (Value → World → Prop) → Prop) (K : Value → World → Prop) : gK (.bool b) want w run K = if b = want then run K else K undef w := rfl
@[simp ↓ low] theorem gS_bool (b want : Bool) (run : (Value → Prop) → Prop) (K : Value → Prop) : gS (.bool b) want run K = if b = want then run K else K undef := rfl
@[simp ↓] theorem gK_move (b want : Bool) (v : Value) (w : World) (K : Value → World → Prop) : gK (.bool b) want w (fun K => K v w) K = K (gv b want v) w := by
  unfold gK gv; simp only; split <;> rfl
@[simp ↓] theorem gS_move (b want : Bool) (v : Value) (K : Value → Prop) : gS (.bool b) want (fun K => K v) K = K (gv b want v) := by
  unfold gS gv; simp only; split <;> rfl
@[simp ↓] theorem gK_undef (want : Bool) (w : World) (run : (Value → World → Prop) → Prop) (K : Value → World → Prop) : gK undef want w run K = K undef w := rfl
@[simp ↓] theorem gS_undef (want : Bool) (run : (Value → Prop) → Prop) (K : Value → Prop) : gS undef want run K = K undef := rfl
@[simp] theorem gv_tf (v : Value) : gv true false v = undef := rfl
@[simp] theorem gv_ft (v : Value) : gv false true v = undef := rfl
@[simp] theorem gv_true (v : Value) : gv true true v = v := rfl
@[simp] theorem gv_false (v : Value) : gv false false v = v := rfl
theorem run_nilCheck {P : Program} (a : Addr) (ty : TypeId) (w : World) : (execOp bare { dst := none, op := .nilCheck (.const (.pointer (some a))), type := ty, pos := "", after := #[], guard := none }).run P w = .ok (.value (.pointer (some a))) w := rfl
@[simp ↓] theorem opK_nilCheck {P : Program} (a : Addr) (ty : TypeId) (w : World) (K : Value → World → Prop) : opK P (.nilCheck (.const (.pointer (some a)))) ty w K = K (.pointer (some a)) w := opK_of (run_nilCheck a ty w) rfl
@[simp ↓] theorem stK_nilCheck {P : Program} (a : Addr) (ty : TypeId) (w : World) (K : Value → Prop) : stK P (.nilCheck (.const (.pointer (some a)))) ty w K = K (.pointer (some a)) := stK_of (run_nilCheck a ty w) rfl
theorem run_int_lss {P : Program} (k : IntKind) (x y : Int) (t u : TypeId) (ty : TypeId) (w : World) : (execOp bare { dst := none, op := .binOp .lss t (.const (.int k x)) (.const (.int k y)) u, type := ty, pos := "", after := #[], guard := none }).run P w = .ok (.value (.bool (decide (x < y)))) w := by
  simp [execOp, bare, Act.eval, eqGuard, binOp, Op.intCmp]
@[simp ↓] theorem opK_int_lss {P : Program} (k : IntKind) (x y : Int) (t u : TypeId) (ty : TypeId) (w : World) (K : Value → World → Prop) : opK P (.binOp .lss t (.const (.int k x)) (.const (.int k y)) u) ty w K = K (.bool (decide (x < y))) w := opK_of (run_int_lss k x y t u ty w) rfl
@[simp ↓] theorem stK_int_lss {P : Program} (k : IntKind) (x y : Int) (t u : TypeId) (ty : TypeId) (w : World) (K : Value → Prop) : stK P (.binOp .lss t (.const (.int k x)) (.const (.int k y)) u) ty w K = K (.bool (decide (x < y))) := stK_of (run_int_lss k x y t u ty w) rfl
theorem run_int_leq {P : Program} (k : IntKind) (x y : Int) (t u : TypeId) (ty : TypeId) (w : World) : (execOp bare { dst := none, op := .binOp .leq t (.const (.int k x)) (.const (.int k y)) u, type := ty, pos := "", after := #[], guard := none }).run P w = .ok (.value (.bool (decide (x ≤ y)))) w := by
  simp [execOp, bare, Act.eval, eqGuard, binOp, Op.intCmp]
@[simp ↓] theorem opK_int_leq {P : Program} (k : IntKind) (x y : Int) (t u : TypeId) (ty : TypeId) (w : World) (K : Value → World → Prop) : opK P (.binOp .leq t (.const (.int k x)) (.const (.int k y)) u) ty w K = K (.bool (decide (x ≤ y))) w := opK_of (run_int_leq k x y t u ty w) rfl
@[simp ↓] theorem stK_int_leq {P : Program} (k : IntKind) (x y : Int) (t u : TypeId) (ty : TypeId) (w : World) (K : Value → Prop) : stK P (.binOp .leq t (.const (.int k x)) (.const (.int k y)) u) ty w K = K (.bool (decide (x ≤ y))) := stK_of (run_int_leq k x y t u ty w) rfl
theorem run_int_gtr {P : Program} (k : IntKind) (x y : Int) (t u : TypeId) (ty : TypeId) (w : World) : (execOp bare { dst := none, op := .binOp .gtr t (.const (.int k x)) (.const (.int k y)) u, type := ty, pos := "", after := #[], guard := none }).run P w = .ok (.value (.bool (decide (x > y)))) w := by
  simp [execOp, bare, Act.eval, eqGuard, binOp, Op.intCmp]
@[simp ↓] theorem opK_int_gtr {P : Program} (k : IntKind) (x y : Int) (t u : TypeId) (ty : TypeId) (w : World) (K : Value → World → Prop) : opK P (.binOp .gtr t (.const (.int k x)) (.const (.int k y)) u) ty w K = K (.bool (decide (x > y))) w := opK_of (run_int_gtr k x y t u ty w) rfl
@[simp ↓] theorem stK_int_gtr {P : Program} (k : IntKind) (x y : Int) (t u : TypeId) (ty : TypeId) (w : World) (K : Value → Prop) : stK P (.binOp .gtr t (.const (.int k x)) (.const (.int k y)) u) ty w K = K (.bool (decide (x > y))) := stK_of (run_int_gtr k x y t u ty w) rfl
theorem run_int_geq {P : Program} (k : IntKind) (x y : Int) (t u : TypeId) (ty : TypeId) (w : World) : (execOp bare { dst := none, op := .binOp .geq t (.const (.int k x)) (.const (.int k y)) u, type := ty, pos := "", after := #[], guard := none }).run P w = .ok (.value (.bool (decide (x ≥ y)))) w := by
  simp [execOp, bare, Act.eval, eqGuard, binOp, Op.intCmp]
@[simp ↓] theorem opK_int_geq {P : Program} (k : IntKind) (x y : Int) (t u : TypeId) (ty : TypeId) (w : World) (K : Value → World → Prop) : opK P (.binOp .geq t (.const (.int k x)) (.const (.int k y)) u) ty w K = K (.bool (decide (x ≥ y))) w := opK_of (run_int_geq k x y t u ty w) rfl
@[simp ↓] theorem stK_int_geq {P : Program} (k : IntKind) (x y : Int) (t u : TypeId) (ty : TypeId) (w : World) (K : Value → Prop) : stK P (.binOp .geq t (.const (.int k x)) (.const (.int k y)) u) ty w K = K (.bool (decide (x ≥ y))) := stK_of (run_int_geq k x y t u ty w) rfl
theorem run_int_eql {P : Program} (k : IntKind) (x y : Int) (t u : TypeId) (ty : TypeId) (w : World) : (execOp bare { dst := none, op := .binOp .eql t (.const (.int k x)) (.const (.int k y)) u, type := ty, pos := "", after := #[], guard := none }).run P w = .ok (.value (.bool (x == y))) w := by
  simp [execOp, bare, Act.eval, eqGuard, binOp, Op.intCmp]
@[simp ↓] theorem opK_int_eql {P : Program} (k : IntKind) (x y : Int) (t u : TypeId) (ty : TypeId) (w : World) (K : Value → World → Prop) : opK P (.binOp .eql t (.const (.int k x)) (.const (.int k y)) u) ty w K = K (.bool (x == y)) w := opK_of (run_int_eql k x y t u ty w) rfl
@[simp ↓] theorem stK_int_eql {P : Program} (k : IntKind) (x y : Int) (t u : TypeId) (ty : TypeId) (w : World) (K : Value → Prop) : stK P (.binOp .eql t (.const (.int k x)) (.const (.int k y)) u) ty w K = K (.bool (x == y)) := stK_of (run_int_eql k x y t u ty w) rfl
theorem run_int_neq {P : Program} (k : IntKind) (x y : Int) (t u : TypeId) (ty : TypeId) (w : World) : (execOp bare { dst := none, op := .binOp .neq t (.const (.int k x)) (.const (.int k y)) u, type := ty, pos := "", after := #[], guard := none }).run P w = .ok (.value (.bool (x != y))) w := by
  simp [execOp, bare, Act.eval, eqGuard, binOp, Op.intCmp]
@[simp ↓] theorem opK_int_neq {P : Program} (k : IntKind) (x y : Int) (t u : TypeId) (ty : TypeId) (w : World) (K : Value → World → Prop) : opK P (.binOp .neq t (.const (.int k x)) (.const (.int k y)) u) ty w K = K (.bool (x != y)) w := opK_of (run_int_neq k x y t u ty w) rfl
@[simp ↓] theorem stK_int_neq {P : Program} (k : IntKind) (x y : Int) (t u : TypeId) (ty : TypeId) (w : World) (K : Value → Prop) : stK P (.binOp .neq t (.const (.int k x)) (.const (.int k y)) u) ty w K = K (.bool (x != y)) := stK_of (run_int_neq k x y t u ty w) rfl
theorem run_int_add {P : Program} (k : IntKind) (x y : Int) (t u : TypeId) (ty : TypeId) (w : World) : (execOp bare { dst := none, op := .binOp .add t (.const (.int k x)) (.const (.int k y)) u, type := ty, pos := "", after := #[], guard := none }).run P w = .ok (.value (.int k (k.wrap (x + y)))) w := by
  simp [execOp, bare, Act.eval, eqGuard, binOp, Op.intArith]
@[simp ↓] theorem opK_int_add {P : Program} (k : IntKind) (x y : Int) (t u : TypeId) (ty : TypeId) (w : World) (K : Value → World → Prop) : opK P (.binOp .add t (.const (.int k x)) (.const (.int k y)) u) ty w K = K (.int k (k.wrap (x + y))) w := opK_of (run_int_add k x y t u ty w) rfl
@[simp ↓] theorem stK_int_add {P : Program} (k : IntKind) (x y : Int) (t u : TypeId) (ty : TypeId) (w : World) (K : Value → Prop) : stK P (.binOp .add t (.const (.int k x)) (.const (.int k y)) u) ty w K = K (.int k (k.wrap (x + y))) := stK_of (run_int_add k x y t u ty w) rfl
theorem run_int_sub {P : Program} (k : IntKind) (x y : Int) (t u : TypeId) (ty : TypeId) (w : World) : (execOp bare { dst := none, op := .binOp .sub t (.const (.int k x)) (.const (.int k y)) u, type := ty, pos := "", after := #[], guard := none }).run P w = .ok (.value (.int k (k.wrap (x - y)))) w := by
  simp [execOp, bare, Act.eval, eqGuard, binOp, Op.intArith]
@[simp ↓] theorem opK_int_sub {P : Program} (k : IntKind) (x y : Int) (t u : TypeId) (ty : TypeId) (w : World) (K : Value → World → Prop) : opK P (.binOp .sub t (.const (.int k x)) (.const (.int k y)) u) ty w K = K (.int k (k.wrap (x - y))) w := opK_of (run_int_sub k x y t u ty w) rfl
@[simp ↓] theorem stK_int_sub {P : Program} (k : IntKind) (x y : Int) (t u : TypeId) (ty : TypeId) (w : World) (K : Value → Prop) : stK P (.binOp .sub t (.const (.int k x)) (.const (.int k y)) u) ty w K = K (.int k (k.wrap (x - y))) := stK_of (run_int_sub k x y t u ty w) rfl
theorem run_int_mul {P : Program} (k : IntKind) (x y : Int) (t u : TypeId) (ty : TypeId) (w : World) : (execOp bare { dst := none, op := .binOp .mul t (.const (.int k x)) (.const (.int k y)) u, type := ty, pos := "", after := #[], guard := none }).run P w = .ok (.value (.int k (k.wrap (x * y)))) w := by
  simp [execOp, bare, Act.eval, eqGuard, binOp, Op.intArith]
@[simp ↓] theorem opK_int_mul {P : Program} (k : IntKind) (x y : Int) (t u : TypeId) (ty : TypeId) (w : World) (K : Value → World → Prop) : opK P (.binOp .mul t (.const (.int k x)) (.const (.int k y)) u) ty w K = K (.int k (k.wrap (x * y))) w := opK_of (run_int_mul k x y t u ty w) rfl
@[simp ↓] theorem stK_int_mul {P : Program} (k : IntKind) (x y : Int) (t u : TypeId) (ty : TypeId) (w : World) (K : Value → Prop) : stK P (.binOp .mul t (.const (.int k x)) (.const (.int k y)) u) ty w K = K (.int k (k.wrap (x * y))) := stK_of (run_int_mul k x y t u ty w) rfl
theorem run_int_rem {P : Program} (k : IntKind) (x y : Int) (t u : TypeId) (h : y ≠ 0) (ty : TypeId) (w : World) : (execOp bare { dst := none, op := .binOp .rem t (.const (.int k x)) (.const (.int k y)) u, type := ty, pos := "", after := #[], guard := none }).run P w = .ok (.value (.int k (x.tmod y))) w := by
  simp [execOp, bare, Act.eval, eqGuard, binOp, Op.intDiv, h]
@[simp ↓] theorem opK_int_rem {P : Program} (k : IntKind) (x y : Int) (t u : TypeId) (h : y ≠ 0) (ty : TypeId) (w : World) (K : Value → World → Prop) : opK P (.binOp .rem t (.const (.int k x)) (.const (.int k y)) u) ty w K = K (.int k (x.tmod y)) w := opK_of (run_int_rem k x y t u h ty w) rfl
@[simp ↓] theorem stK_int_rem {P : Program} (k : IntKind) (x y : Int) (t u : TypeId) (h : y ≠ 0) (ty : TypeId) (w : World) (K : Value → Prop) : stK P (.binOp .rem t (.const (.int k x)) (.const (.int k y)) u) ty w K = K (.int k (x.tmod y)) := stK_of (run_int_rem k x y t u h ty w) rfl
theorem run_int_quo {P : Program} (k : IntKind) (x y : Int) (t u : TypeId) (h : y ≠ 0) (ty : TypeId) (w : World) : (execOp bare { dst := none, op := .binOp .quo t (.const (.int k x)) (.const (.int k y)) u, type := ty, pos := "", after := #[], guard := none }).run P w = .ok (.value (.int k (k.wrap (x.tdiv y)))) w := by
  simp [execOp, bare, Act.eval, eqGuard, binOp, Op.intDiv, h]
@[simp ↓] theorem opK_int_quo {P : Program} (k : IntKind) (x y : Int) (t u : TypeId) (h : y ≠ 0) (ty : TypeId) (w : World) (K : Value → World → Prop) : opK P (.binOp .quo t (.const (.int k x)) (.const (.int k y)) u) ty w K = K (.int k (k.wrap (x.tdiv y))) w := opK_of (run_int_quo k x y t u h ty w) rfl
@[simp ↓] theorem stK_int_quo {P : Program} (k : IntKind) (x y : Int) (t u : TypeId) (h : y ≠ 0) (ty : TypeId) (w : World) (K : Value → Prop) : stK P (.binOp .quo t (.const (.int k x)) (.const (.int k y)) u) ty w K = K (.int k (k.wrap (x.tdiv y))) := stK_of (run_int_quo k x y t u h ty w) rfl
theorem run_not {P : Program} (b : Bool) (t : TypeId) (ty : TypeId) (w : World) : (execOp bare { dst := none, op := .unOp .not t (.const (.bool b)), type := ty, pos := "", after := #[], guard := none }).run P w = .ok (.value (.bool (!b))) w := rfl
@[simp ↓] theorem opK_not {P : Program} (b : Bool) (t : TypeId) (ty : TypeId) (w : World) (K : Value → World → Prop) : opK P (.unOp .not t (.const (.bool b))) ty w K = K (.bool (!b)) w := opK_of (run_not b t ty w) rfl
@[simp ↓] theorem stK_not {P : Program} (b : Bool) (t : TypeId) (ty : TypeId) (w : World) (K : Value → Prop) : stK P (.unOp .not t (.const (.bool b))) ty w K = K (.bool (!b)) := stK_of (run_not b t ty w) rfl
theorem run_pick {P : Program} (b : Bool) (x y : Value) (ty : TypeId) (w : World) : (execOp bare { dst := none, op := .pick (.const (.bool b)) (.const x) (.const y), type := ty, pos := "", after := #[], guard := none }).run P w = .ok (.value (if b = true then x else y)) w := by
  simp [execOp, bare, Act.eval, asBool]
theorem opK_pick {P : Program} (b : Bool) (x y : Value) (ty : TypeId) (w : World) (K : Value → World → Prop) : opK P (.pick (.const (.bool b)) (.const x) (.const y)) ty w K = K (if b = true then x else y) w := opK_of (run_pick b x y ty w) rfl
theorem stK_pick {P : Program} (b : Bool) (x y : Value) (ty : TypeId) (w : World) (K : Value → Prop) : stK P (.pick (.const (.bool b)) (.const x) (.const y)) ty w K = K (if b = true then x else y) := stK_of (run_pick b x y ty w) rfl
theorem run_pick_or {P : Program} (b c : Bool) (ty : TypeId) (w : World) : (execOp bare { dst := none, op := .pick (.const (.bool b)) (.const (.bool true)) (.const (gv b false (.bool c))), type := ty, pos := "", after := #[], guard := none }).run P w = .ok (.value (.bool (b || c))) w := by
  cases b <;> rfl
@[simp ↓] theorem opK_pick_or {P : Program} (b c : Bool) (ty : TypeId) (w : World) (K : Value → World → Prop) : opK P (.pick (.const (.bool b)) (.const (.bool true)) (.const (gv b false (.bool c)))) ty w K = K (.bool (b || c)) w := opK_of (run_pick_or b c ty w) rfl
@[simp ↓] theorem stK_pick_or {P : Program} (b c : Bool) (ty : TypeId) (w : World) (K : Value → Prop) : stK P (.pick (.const (.bool b)) (.const (.bool true)) (.const (gv b false (.bool c)))) ty w K = K (.bool (b || c)) := stK_of (run_pick_or b c ty w) rfl
theorem run_pick_and {P : Program} (b c : Bool) (ty : TypeId) (w : World) : (execOp bare { dst := none, op := .pick (.const (.bool b)) (.const (gv b true (.bool c))) (.const (.bool false)), type := ty, pos := "", after := #[], guard := none }).run P w = .ok (.value (.bool (b && c))) w := by
  cases b <;> rfl
@[simp ↓] theorem opK_pick_and {P : Program} (b c : Bool) (ty : TypeId) (w : World) (K : Value → World → Prop) : opK P (.pick (.const (.bool b)) (.const (gv b true (.bool c))) (.const (.bool false))) ty w K = K (.bool (b && c)) w := opK_of (run_pick_and b c ty w) rfl
@[simp ↓] theorem stK_pick_and {P : Program} (b c : Bool) (ty : TypeId) (w : World) (K : Value → Prop) : stK P (.pick (.const (.bool b)) (.const (gv b true (.bool c))) (.const (.bool false))) ty w K = K (.bool (b && c)) := stK_of (run_pick_and b c ty w) rfl
theorem run_pick_true {P : Program} (x y : Value) (ty : TypeId) (w : World) : (execOp bare { dst := none, op := .pick (.const (.bool true)) (.const x) (.const y), type := ty, pos := "", after := #[], guard := none }).run P w = .ok (.value (x)) w := rfl
@[simp ↓] theorem opK_pick_true {P : Program} (x y : Value) (ty : TypeId) (w : World) (K : Value → World → Prop) : opK P (.pick (.const (.bool true)) (.const x) (.const y)) ty w K = K (x) w := opK_of (run_pick_true x y ty w) rfl
@[simp ↓] theorem stK_pick_true {P : Program} (x y : Value) (ty : TypeId) (w : World) (K : Value → Prop) : stK P (.pick (.const (.bool true)) (.const x) (.const y)) ty w K = K (x) := stK_of (run_pick_true x y ty w) rfl
theorem run_pick_false {P : Program} (x y : Value) (ty : TypeId) (w : World) : (execOp bare { dst := none, op := .pick (.const (.bool false)) (.const x) (.const y), type := ty, pos := "", after := #[], guard := none }).run P w = .ok (.value (y)) w := rfl
@[simp ↓] theorem opK_pick_false {P : Program} (x y : Value) (ty : TypeId) (w : World) (K : Value → World → Prop) : opK P (.pick (.const (.bool false)) (.const x) (.const y)) ty w K = K (y) w := opK_of (run_pick_false x y ty w) rfl
@[simp ↓] theorem stK_pick_false {P : Program} (x y : Value) (ty : TypeId) (w : World) (K : Value → Prop) : stK P (.pick (.const (.bool false)) (.const x) (.const y)) ty w K = K (y) := stK_of (run_pick_false x y ty w) rfl
theorem run_len_slice {P : Program} (a : Option Addr) (n c : Nat) (t e : TypeId) (h : P.underlying t = some (.slice e)) (ty : TypeId) (w : World) : (execOp bare { dst := none, op := .call ⟨.builtin .len, #[.const (.slice a n c)], #[t]⟩, type := ty, pos := "", after := #[], guard := none }).run P w = .ok (.value (.int .i64 n)) w := by
  simp [execOp, resolve, invoke, builtin, Builtin.len_, bare, Act.eval, underlying, h, goInt]
theorem opK_len_slice {P : Program} (a : Option Addr) (n c : Nat) (t e : TypeId) (h : P.underlying t = some (.slice e)) (ty : TypeId) (w : World) (K : Value → World → Prop) : opK P (.call ⟨.builtin .len, #[.const (.slice a n c)], #[t]⟩) ty w K = K (.int .i64 n) w := opK_of (run_len_slice a n c t e h ty w) rfl
theorem stK_len_slice {P : Program} (a : Option Addr) (n c : Nat) (t e : TypeId) (h : P.underlying t = some (.slice e)) (ty : TypeId) (w : World) (K : Value → Prop) : stK P (.call ⟨.builtin .len, #[.const (.slice a n c)], #[t]⟩) ty w K = K (.int .i64 n) := stK_of (run_len_slice a n c t e h ty w) rfl
theorem run_index_slice {P : Program} (b o n c : Nat) (k : IntKind) (i : Int) (t e z : Nat) (h : P.underlying t = some (.slice e)) (hz : (P.info? e).map (·.size) = some z) (h0 : 0 ≤ i) (h1 : i < n) (ty : TypeId) (w : World) : (execOp bare { dst := none, op := .indexAddr t (.const (.slice (some ⟨b, o, none⟩) n c)) (.const (.int k i)), type := ty, pos := "", after := #[], guard := none }).run P w = .ok (.value (.pointer (some ⟨b, o + i.toNat * z, none⟩))) w := by
  obtain ⟨f, hf, rfl⟩ : ∃ f, P.info? e = some f ∧ f.size = z := by
    cases hh : P.info? e with
    | none => rw [hh] at hz; cases hz
    | some f => rw [hh] at hz; exact ⟨f, rfl, by simpa using hz⟩
  simp [execOp, bare, Act.eval, Instr.indexAt, asIntOf, underlying, h, sizeOf, typeInfo, hf, h0, h1, add_off]
theorem opK_index_slice {P : Program} (b o n c : Nat) (k : IntKind) (i : Int) (t e z : Nat) (h : P.underlying t = some (.slice e)) (hz : (P.info? e).map (·.size) = some z) (h0 : 0 ≤ i) (h1 : i < n) (ty : TypeId) (w : World) (K : Value → World → Prop) : opK P (.indexAddr t (.const (.slice (some ⟨b, o, none⟩) n c)) (.const (.int k i))) ty w K = K (.pointer (some ⟨b, o + i.toNat * z, none⟩)) w := opK_of (run_index_slice b o n c k i t e z h hz h0 h1 ty w) rfl
theorem stK_index_slice {P : Program} (b o n c : Nat) (k : IntKind) (i : Int) (t e z : Nat) (h : P.underlying t = some (.slice e)) (hz : (P.info? e).map (·.size) = some z) (h0 : 0 ≤ i) (h1 : i < n) (ty : TypeId) (w : World) (K : Value → Prop) : stK P (.indexAddr t (.const (.slice (some ⟨b, o, none⟩) n c)) (.const (.int k i))) ty w K = K (.pointer (some ⟨b, o + i.toNat * z, none⟩)) := stK_of (run_index_slice b o n c k i t e z h hz h0 h1 ty w) rfl
theorem run_index_array {P : Program} (b o n : Nat) (k : IntKind) (i : Int) (t e z : Nat) (h : P.underlying t = some (.array n e)) (hz : (P.info? e).map (·.size) = some z) (h0 : 0 ≤ i) (h1 : i < n) (ty : TypeId) (w : World) : (execOp bare { dst := none, op := .indexAddr t (.const (.pointer (some ⟨b, o, none⟩))) (.const (.int k i)), type := ty, pos := "", after := #[], guard := none }).run P w = .ok (.value (.pointer (some ⟨b, o + i.toNat * z, none⟩))) w := by
  obtain ⟨f, hf, rfl⟩ : ∃ f, P.info? e = some f ∧ f.size = z := by
    cases hh : P.info? e with
    | none => rw [hh] at hz; cases hz
    | some f => rw [hh] at hz; exact ⟨f, rfl, by simpa using hz⟩
  simp [execOp, bare, Act.eval, Instr.indexAt, Instr.sureAddr, asIntOf, underlying, h, sizeOf, typeInfo, hf, h0, h1, add_off]
theorem opK_index_array {P : Program} (b o n : Nat) (k : IntKind) (i : Int) (t e z : Nat) (h : P.underlying t = some (.array n e)) (hz : (P.info? e).map (·.size) = some z) (h0 : 0 ≤ i) (h1 : i < n) (ty : TypeId) (w : World) (K : Value → World → Prop) : opK P (.indexAddr t (.const (.pointer (some ⟨b, o, none⟩))) (.const (.int k i))) ty w K = K (.pointer (some ⟨b, o + i.toNat * z, none⟩)) w := opK_of (run_index_array b o n k i t e z h hz h0 h1 ty w) rfl
theorem stK_index_array {P : Program} (b o n : Nat) (k : IntKind) (i : Int) (t e z : Nat) (h : P.underlying t = some (.array n e)) (hz : (P.info? e).map (·.size) = some z) (h0 : 0 ≤ i) (h1 : i < n) (ty : TypeId) (w : World) (K : Value → Prop) : stK P (.indexAddr t (.const (.pointer (some ⟨b, o, none⟩))) (.const (.int k i))) ty w K = K (.pointer (some ⟨b, o + i.toNat * z, none⟩)) := stK_of (run_index_array b o n k i t e z h hz h0 h1 ty w) rfl
theorem run_ptr_nil_eql {P : Program} (a : Option Addr) (t u e : TypeId) (h : P.underlying t = some (.pointer e)) (ty : TypeId) (w : World) : (execOp bare { dst := none, op := .binOp .eql t (.const (.pointer a)) (.const (.pointer none)) u, type := ty, pos := "", after := #[], guard := none }).run P w = .ok (.value (.bool (a.isNone))) w := by
  cases a <;> exact bin_eql rfl rfl (eqIn_ptr h 9999 w)
theorem opK_ptr_nil_eql {P : Program} (a : Option Addr) (t u e : TypeId) (h : P.underlying t = some (.pointer e)) (ty : TypeId) (w : World) (K : Value → World → Prop) : opK P (.binOp .eql t (.const (.pointer a)) (.const (.pointer none)) u) ty w K = K (.bool (a.isNone)) w := opK_of (run_ptr_nil_eql a t u e h ty w) rfl
theorem stK_ptr_nil_eql {P : Program} (a : Option Addr) (t u e : TypeId) (h : P.underlying t = some (.pointer e)) (ty : TypeId) (w : World) (K : Value → Prop) : stK P (.binOp .eql t (.const (.pointer a)) (.const (.pointer none)) u) ty w K = K (.bool (a.isNone)) := stK_of (run_ptr_nil_eql a t u e h ty w) rfl
theorem run_map_nil_eql {P : Program} (a : Option Nat) (t u e f : TypeId) (h : P.underlying t = some (.map e f)) (ty : TypeId) (w : World) : (execOp bare { dst := none, op := .binOp .eql t (.const (.map a)) (.const (.map none)) u, type := ty, pos := "", after := #[], guard := none }).run P w = .ok (.value (.bool (a.isNone))) w := by
  cases a <;> exact bin_eql rfl rfl (eqIn_map h 9999 w)
theorem opK_map_nil_eql {P : Program} (a : Option Nat) (t u e f : TypeId) (h : P.underlying t = some (.map e f)) (ty : TypeId) (w : World) (K : Value → World → Prop) : opK P (.binOp .eql t (.const (.map a)) (.const (.map none)) u) ty w K = K (.bool (a.isNone)) w := opK_of (run_map_nil_eql a t u e f h ty w) rfl
theorem stK_map_nil_eql {P : Program} (a : Option Nat) (t u e f : TypeId) (h : P.underlying t = some (.map e f)) (ty : TypeId) (w : World) (K : Value → Prop) : stK P (.binOp .eql t (.const (.map a)) (.const (.map none)) u) ty w K = K (.bool (a.isNone)) := stK_of (run_map_nil_eql a t u e f h ty w) rfl
theorem run_ptr_nil_neq {P : Program} (a : Option Addr) (t u e : TypeId) (h : P.underlying t = some (.pointer e)) (ty : TypeId) (w : World) : (execOp bare { dst := none, op := .binOp .neq t (.const (.pointer a)) (.const (.pointer none)) u, type := ty, pos := "", after := #[], guard := none }).run P w = .ok (.value (.bool (!a.isNone))) w := by
  cases a <;> exact bin_neq rfl rfl (eqIn_ptr h 9999 w)
theorem opK_ptr_nil_neq {P : Program} (a : Option Addr) (t u e : TypeId) (h : P.underlying t = some (.pointer e)) (ty : TypeId) (w : World) (K : Value → World → Prop) : opK P (.binOp .neq t (.const (.pointer a)) (.const (.pointer none)) u) ty w K = K (.bool (!a.isNone)) w := opK_of (run_ptr_nil_neq a t u e h ty w) rfl
theorem stK_ptr_nil_neq {P : Program} (a : Option Addr) (t u e : TypeId) (h : P.underlying t = some (.pointer e)) (ty : TypeId) (w : World) (K : Value → Prop) : stK P (.binOp .neq t (.const (.pointer a)) (.const (.pointer none)) u) ty w K = K (.bool (!a.isNone)) := stK_of (run_ptr_nil_neq a t u e h ty w) rfl
theorem run_map_nil_neq {P : Program} (a : Option Nat) (t u e f : TypeId) (h : P.underlying t = some (.map e f)) (ty : TypeId) (w : World) : (execOp bare { dst := none, op := .binOp .neq t (.const (.map a)) (.const (.map none)) u, type := ty, pos := "", after := #[], guard := none }).run P w = .ok (.value (.bool (!a.isNone))) w := by
  cases a <;> exact bin_neq rfl rfl (eqIn_map h 9999 w)
theorem opK_map_nil_neq {P : Program} (a : Option Nat) (t u e f : TypeId) (h : P.underlying t = some (.map e f)) (ty : TypeId) (w : World) (K : Value → World → Prop) : opK P (.binOp .neq t (.const (.map a)) (.const (.map none)) u) ty w K = K (.bool (!a.isNone)) w := opK_of (run_map_nil_neq a t u e f h ty w) rfl
theorem stK_map_nil_neq {P : Program} (a : Option Nat) (t u e f : TypeId) (h : P.underlying t = some (.map e f)) (ty : TypeId) (w : World) (K : Value → Prop) : stK P (.binOp .neq t (.const (.map a)) (.const (.map none)) u) ty w K = K (.bool (!a.isNone)) := stK_of (run_map_nil_neq a t u e f h ty w) rfl
theorem run_bool_eql {P : Program} (a b : Bool) (t u : TypeId) (h : P.underlying t = some .bool) (ty : TypeId) (w : World) : (execOp bare { dst := none, op := .binOp .eql t (.const (.bool a)) (.const (.bool b)) u, type := ty, pos := "", after := #[], guard := none }).run P w = .ok (.value (.bool (a == b))) w := by
  exact bin_eql rfl rfl (eqIn_bool h 9999 w)
theorem opK_bool_eql {P : Program} (a b : Bool) (t u : TypeId) (h : P.underlying t = some .bool) (ty : TypeId) (w : World) (K : Value → World → Prop) : opK P (.binOp .eql t (.const (.bool a)) (.const (.bool b)) u) ty w K = K (.bool (a == b)) w := opK_of (run_bool_eql a b t u h ty w) rfl
theorem stK_bool_eql {P : Program} (a b : Bool) (t u : TypeId) (h : P.underlying t = some .bool) (ty : TypeId) (w : World) (K : Value → Prop) : stK P (.binOp .eql t (.const (.bool a)) (.const (.bool b)) u) ty w K = K (.bool (a == b)) := stK_of (run_bool_eql a b t u h ty w) rfl
theorem run_bool_neq {P : Program} (a b : Bool) (t u : TypeId) (h : P.underlying t = some .bool) (ty : TypeId) (w : World) : (execOp bare { dst := none, op := .binOp .neq t (.const (.bool a)) (.const (.bool b)) u, type := ty, pos := "", after := #[], guard := none }).run P w = .ok (.value (.bool (!(a == b)))) w := by
  exact bin_neq rfl rfl (eqIn_bool h 9999 w)
theorem opK_bool_neq {P : Program} (a b : Bool) (t u : TypeId) (h : P.underlying t = some .bool) (ty : TypeId) (w : World) (K : Value → World → Prop) : opK P (.binOp .neq t (.const (.bool a)) (.const (.bool b)) u) ty w K = K (.bool (!(a == b))) w := opK_of (run_bool_neq a b t u h ty w) rfl
theorem stK_bool_neq {P : Program} (a b : Bool) (t u : TypeId) (h : P.underlying t = some .bool) (ty : TypeId) (w : World) (K : Value → Prop) : stK P (.binOp .neq t (.const (.bool a)) (.const (.bool b)) u) ty w K = K (.bool (!(a == b))) := stK_of (run_bool_neq a b t u h ty w) rfl
theorem run_makeFunc0 {P : Program} (f : FuncId) (ty : TypeId) (w : World) : (execOp bare { dst := none, op := .makeFunc (.func f) #[] #[], type := ty, pos := "", after := #[], guard := none }).run P w = .ok (.value (.func (.func f) #[] #[])) w := by
  simp [execOp, bare, Instr.makeFunc]
@[simp ↓] theorem opK_makeFunc0 {P : Program} (f : FuncId) (ty : TypeId) (w : World) (K : Value → World → Prop) : opK P (.makeFunc (.func f) #[] #[]) ty w K = K (.func (.func f) #[] #[]) w := opK_of (run_makeFunc0 f ty w) rfl
@[simp ↓] theorem stK_makeFunc0 {P : Program} (f : FuncId) (ty : TypeId) (w : World) (K : Value → Prop) : stK P (.makeFunc (.func f) #[] #[]) ty w K = K (.func (.func f) #[] #[]) := stK_of (run_makeFunc0 f ty w) rfl
theorem run_makeFunc1 {P : Program} (f : FuncId) (x : Value) (ty : TypeId) (w : World) : (execOp bare { dst := none, op := .makeFunc (.func f) #[] #[.const x], type := ty, pos := "", after := #[], guard := none }).run P w = .ok (.value (.func (.func f) #[] #[x])) w := by
  simp [execOp, bare, Act.eval, Instr.makeFunc]
@[simp ↓] theorem opK_makeFunc1 {P : Program} (f : FuncId) (x : Value) (ty : TypeId) (w : World) (K : Value → World → Prop) : opK P (.makeFunc (.func f) #[] #[.const x]) ty w K = K (.func (.func f) #[] #[x]) w := opK_of (run_makeFunc1 f x ty w) rfl
@[simp ↓] theorem stK_makeFunc1 {P : Program} (f : FuncId) (x : Value) (ty : TypeId) (w : World) (K : Value → Prop) : stK P (.makeFunc (.func f) #[] #[.const x]) ty w K = K (.func (.func f) #[] #[x]) := stK_of (run_makeFunc1 f x ty w) rfl
theorem run_makeFunc2 {P : Program} (f : FuncId) (x y : Value) (ty : TypeId) (w : World) : (execOp bare { dst := none, op := .makeFunc (.func f) #[] #[.const x, .const y], type := ty, pos := "", after := #[], guard := none }).run P w = .ok (.value (.func (.func f) #[] #[x, y])) w := by
  simp [execOp, bare, Act.eval, Instr.makeFunc]
@[simp ↓] theorem opK_makeFunc2 {P : Program} (f : FuncId) (x y : Value) (ty : TypeId) (w : World) (K : Value → World → Prop) : opK P (.makeFunc (.func f) #[] #[.const x, .const y]) ty w K = K (.func (.func f) #[] #[x, y]) w := opK_of (run_makeFunc2 f x y ty w) rfl
@[simp ↓] theorem stK_makeFunc2 {P : Program} (f : FuncId) (x y : Value) (ty : TypeId) (w : World) (K : Value → Prop) : stK P (.makeFunc (.func f) #[] #[.const x, .const y]) ty w K = K (.func (.func f) #[] #[x, y]) := stK_of (run_makeFunc2 f x y ty w) rfl
theorem run_extract2_0 {P : Program} (x0 x1 : Value) (ty : TypeId) (w : World) : (execOp bare { dst := none, op := .extract (.const (.tuple #[x0, x1])) 0, type := ty, pos := "", after := #[], guard := none }).run P w = .ok (.value (x0)) w := rfl
@[simp ↓] theorem opK_extract2_0 {P : Program} (x0 x1 : Value) (ty : TypeId) (w : World) (K : Value → World → Prop) : opK P (.extract (.const (.tuple #[x0, x1])) 0) ty w K = K (x0) w := opK_of (run_extract2_0 x0 x1 ty w) rfl
@[simp ↓] theorem stK_extract2_0 {P : Program} (x0 x1 : Value) (ty : TypeId) (w : World) (K : Value → Prop) : stK P (.extract (.const (.tuple #[x0, x1])) 0) ty w K = K (x0) := stK_of (run_extract2_0 x0 x1 ty w) rfl
theorem run_extract2_1 {P : Program} (x0 x1 : Value) (ty : TypeId) (w : World) : (execOp bare { dst := none, op := .extract (.const (.tuple #[x0, x1])) 1, type := ty, pos := "", after := #[], guard := none }).run P w = .ok (.value (x1)) w := rfl
@[simp ↓] theorem opK_extract2_1 {P : Program} (x0 x1 : Value) (ty : TypeId) (w : World) (K : Value → World → Prop) : opK P (.extract (.const (.tuple #[x0, x1])) 1) ty w K = K (x1) w := opK_of (run_extract2_1 x0 x1 ty w) rfl
@[simp ↓] theorem stK_extract2_1 {P : Program} (x0 x1 : Value) (ty : TypeId) (w : World) (K : Value → Prop) : stK P (.extract (.const (.tuple #[x0, x1])) 1) ty w K = K (x1) := stK_of (run_extract2_1 x0 x1 ty w) rfl
theorem run_extract3_0 {P : Program} (x0 x1 x2 : Value) (ty : TypeId) (w : World) : (execOp bare { dst := none, op := .extract (.const (.tuple #[x0, x1, x2])) 0, type := ty, pos := "", after := #[], guard := none }).run P w = .ok (.value (x0)) w := rfl
@[simp ↓] theorem opK_extract3_0 {P : Program} (x0 x1 x2 : Value) (ty : TypeId) (w : World) (K : Value → World → Prop) : opK P (.extract (.const (.tuple #[x0, x1, x2])) 0) ty w K = K (x0) w := opK_of (run_extract3_0 x0 x1 x2 ty w) rfl
@[simp ↓] theorem stK_extract3_0 {P : Program} (x0 x1 x2 : Value) (ty : TypeId) (w : World) (K : Value → Prop) : stK P (.extract (.const (.tuple #[x0, x1, x2])) 0) ty w K = K (x0) := stK_of (run_extract3_0 x0 x1 x2 ty w) rfl
theorem run_extract3_1 {P : Program} (x0 x1 x2 : Value) (ty : TypeId) (w : World) : (execOp bare { dst := none, op := .extract (.const (.tuple #[x0, x1, x2])) 1, type := ty, pos := "", after := #[], guard := none }).run P w = .ok (.value (x1)) w := rfl
@[simp ↓] theorem opK_extract3_1 {P : Program} (x0 x1 x2 : Value) (ty : TypeId) (w : World) (K : Value → World → Prop) : opK P (.extract (.const (.tuple #[x0, x1, x2])) 1) ty w K = K (x1) w := opK_of (run_extract3_1 x0 x1 x2 ty w) rfl
@[simp ↓] theorem stK_extract3_1 {P : Program} (x0 x1 x2 : Value) (ty : TypeId) (w : World) (K : Value → Prop) : stK P (.extract (.const (.tuple #[x0, x1, x2])) 1) ty w K = K (x1) := stK_of (run_extract3_1 x0 x1 x2 ty w) rfl
theorem run_extract3_2 {P : Program} (x0 x1 x2 : Value) (ty : TypeId) (w : World) : (execOp bare { dst := none, op := .extract (.const (.tuple #[x0, x1, x2])) 2, type := ty, pos := "", after := #[], guard := none }).run P w = .ok (.value (x2)) w := rfl
@[simp ↓] theorem opK_extract3_2 {P : Program} (x0 x1 x2 : Value) (ty : TypeId) (w : World) (K : Value → World → Prop) : opK P (.extract (.const (.tuple #[x0, x1, x2])) 2) ty w K = K (x2) w := opK_of (run_extract3_2 x0 x1 x2 ty w) rfl
@[simp ↓] theorem stK_extract3_2 {P : Program} (x0 x1 x2 : Value) (ty : TypeId) (w : World) (K : Value → Prop) : stK P (.extract (.const (.tuple #[x0, x1, x2])) 2) ty w K = K (x2) := stK_of (run_extract3_2 x0 x1 x2 ty w) rfl
theorem run_extract4_0 {P : Program} (x0 x1 x2 x3 : Value) (ty : TypeId) (w : World) : (execOp bare { dst := none, op := .extract (.const (.tuple #[x0, x1, x2, x3])) 0, type := ty, pos := "", after := #[], guard := none }).run P w = .ok (.value (x0)) w := rfl
@[simp ↓] theorem opK_extract4_0 {P : Program} (x0 x1 x2 x3 : Value) (ty : TypeId) (w : World) (K : Value → World → Prop) : opK P (.extract (.const (.tuple #[x0, x1, x2, x3])) 0) ty w K = K (x0) w := opK_of (run_extract4_0 x0 x1 x2 x3 ty w) rfl
@[simp ↓] theorem stK_extract4_0 {P : Program} (x0 x1 x2 x3 : Value) (ty : TypeId) (w : World) (K : Value → Prop) : stK P (.extract (.const (.tuple #[x0, x1, x2, x3])) 0) ty w K = K (x0) := stK_of (run_extract4_0 x0 x1 x2 x3 ty w) rfl
theorem run_extract4_1 {P : Program} (x0 x1 x2 x3 : Value) (ty : TypeId) (w : World) : (execOp bare { dst := none, op := .extract (.const (.tuple #[x0, x1, x2, x3])) 1, type := ty, pos := "", after := #[], guard := none }).run P w = .ok (.value (x1)) w := rfl
@[simp ↓] theorem opK_extract4_1 {P : Program} (x0 x1 x2 x3 : Value) (ty : TypeId) (w : World) (K : Value → World → Prop) : opK P (.extract (.const (.tuple #[x0, x1, x2, x3])) 1) ty w K = K (x1) w := opK_of (run_extract4_1 x0 x1 x2 x3 ty w) rfl
@[simp ↓] theorem stK_extract4_1 {P : Program} (x0 x1 x2 x3 : Value) (ty : TypeId) (w : World) (K : Value → Prop) : stK P (.extract (.const (.tuple #[x0, x1, x2, x3])) 1) ty w K = K (x1) := stK_of (run_extract4_1 x0 x1 x2 x3 ty w) rfl
theorem run_extract4_2 {P : Program} (x0 x1 x2 x3 : Value) (ty : TypeId) (w : World) : (execOp bare { dst := none, op := .extract (.const (.tuple #[x0, x1, x2, x3])) 2, type := ty, pos := "", after := #[], guard := none }).run P w = .ok (.value (x2)) w := rfl
@[simp ↓] theorem opK_extract4_2 {P : Program} (x0 x1 x2 x3 : Value) (ty : TypeId) (w : World) (K : Value → World → Prop) : opK P (.extract (.const (.tuple #[x0, x1, x2, x3])) 2) ty w K = K (x2) w := opK_of (run_extract4_2 x0 x1 x2 x3 ty w) rfl
@[simp ↓] theorem stK_extract4_2 {P : Program} (x0 x1 x2 x3 : Value) (ty : TypeId) (w : World) (K : Value → Prop) : stK P (.extract (.const (.tuple #[x0, x1, x2, x3])) 2) ty w K = K (x2) := stK_of (run_extract4_2 x0 x1 x2 x3 ty w) rfl
theorem run_extract4_3 {P : Program} (x0 x1 x2 x3 : Value) (ty : TypeId) (w : World) : (execOp bare { dst := none, op := .extract (.const (.tuple #[x0, x1, x2, x3])) 3, type := ty, pos := "", after := #[], guard := none }).run P w = .ok (.value (x3)) w := rfl
@[simp ↓] theorem opK_extract4_3 {P : Program} (x0 x1 x2 x3 : Value) (ty : TypeId) (w : World) (K : Value → World → Prop) : opK P (.extract (.const (.tuple #[x0, x1, x2, x3])) 3) ty w K = K (x3) w := opK_of (run_extract4_3 x0 x1 x2 x3 ty w) rfl
@[simp ↓] theorem stK_extract4_3 {P : Program} (x0 x1 x2 x3 : Value) (ty : TypeId) (w : World) (K : Value → Prop) : stK P (.extract (.const (.tuple #[x0, x1, x2, x3])) 3) ty w K = K (x3) := stK_of (run_extract4_3 x0 x1 x2 x3 ty w) rfl
theorem run_extract5_0 {P : Program} (x0 x1 x2 x3 x4 : Value) (ty : TypeId) (w : World) : (execOp bare { dst := none, op := .extract (.const (.tuple #[x0, x1, x2, x3, x4])) 0, type := ty, pos := "", after := #[], guard := none }).run P w = .ok (.value (x0)) w := rfl
@[simp ↓] theorem opK_extract5_0 {P : Program} (x0 x1 x2 x3 x4 : Value) (ty : TypeId) (w : World) (K : Value → World → Prop) : opK P (.extract (.const (.tuple #[x0, x1, x2, x3, x4])) 0) ty w K = K (x0) w := opK_of (run_extract5_0 x0 x1 x2 x3 x4 ty w) rfl
@[simp ↓] theorem stK_extract5_0 {P : Program} (x0 x1 x2 x3 x4 : Value) (ty : TypeId) (w : World) (K : Value → Prop) : stK P (.extract (.const (.tuple #[x0, x1, x2, x3, x4])) 0) ty w K = K (x0) := stK_of (run_extract5_0 x0 x1 x2 x3 x4 ty w) rfl
theorem run_extract5_1 {P : Program} (x0 x1 x2 x3 x4 : Value) (ty : TypeId) (w : World) : (execOp bare { dst := none, op := .extract (.const (.tuple #[x0, x1, x2, x3, x4])) 1, type := ty, pos := "", after := #[], guard := none }).run P w = .ok (.value (x1)) w := rfl
@[simp ↓] theorem opK_extract5_1 {P : Program} (x0 x1 x2 x3 x4 : Value) (ty : TypeId) (w : World) (K : Value → World → Prop) : opK P (.extract (.const (.tuple #[x0, x1, x2, x3, x4])) 1) ty w K = K (x1) w := opK_of (run_extract5_1 x0 x1 x2 x3 x4 ty w) rfl
@[simp ↓] theorem stK_extract5_1 {P : Program} (x0 x1 x2 x3 x4 : Value) (ty : TypeId) (w : World) (K : Value → Prop) : stK P (.extract (.const (.tuple #[x0, x1, x2, x3, x4])) 1) ty w K = K (x1) := stK_of (run_extract5_1 x0 x1 x2 x3 x4 ty w) rfl
theorem run_extract5_2 {P : Program} (x0 x1 x2 x3 x4 : Value) (ty : TypeId) (w : World) : (execOp bare { dst := none, op := .extract (.const (.tuple #[x0, x1, x2, x3, x4])) 2, type := ty, pos := "", after := #[], guard := none }).run P w = .ok (.value (x2)) w := rfl
@[simp ↓] theorem opK_extract5_2 {P : Program} (x0 x1 x2 x3 x4 : Value) (ty : TypeId) (w : World) (K : Value → World → Prop) : opK P (.extract (.const (.tuple #[x0, x1, x2, x3, x4])) 2) ty w K = K (x2) w := opK_of (run_extract5_2 x0 x1 x2 x3 x4 ty w) rfl
@[simp ↓] theorem stK_extract5_2 {P : Program} (x0 x1 x2 x3 x4 : Value) (ty : TypeId) (w : World) (K : Value → Prop) : stK P (.extract (.const (.tuple #[x0, x1, x2, x3, x4])) 2) ty w K = K (x2) := stK_of (run_extract5_2 x0 x1 x2 x3 x4 ty w) rfl
theorem run_extract5_3 {P : Program} (x0 x1 x2 x3 x4 : Value) (ty : TypeId) (w : World) : (execOp bare { dst := none, op := .extract (.const (.tuple #[x0, x1, x2, x3, x4])) 3, type := ty, pos := "", after := #[], guard := none }).run P w = .ok (.value (x3)) w := rfl
@[simp ↓] theorem opK_extract5_3 {P : Program} (x0 x1 x2 x3 x4 : Value) (ty : TypeId) (w : World) (K : Value → World → Prop) : opK P (.extract (.const (.tuple #[x0, x1, x2, x3, x4])) 3) ty w K = K (x3) w := opK_of (run_extract5_3 x0 x1 x2 x3 x4 ty w) rfl
@[simp ↓] theorem stK_extract5_3 {P : Program} (x0 x1 x2 x3 x4 : Value) (ty : TypeId) (w : World) (K : Value → Prop) : stK P (.extract (.const (.tuple #[x0, x1, x2, x3, x4])) 3) ty w K = K (x3) := stK_of (run_extract5_3 x0 x1 x2 x3 x4 ty w) rfl
theorem run_extract5_4 {P : Program} (x0 x1 x2 x3 x4 : Value) (ty : TypeId) (w : World) : (execOp bare { dst := none, op := .extract (.const (.tuple #[x0, x1, x2, x3, x4])) 4, type := ty, pos := "", after := #[], guard := none }).run P w = .ok (.value (x4)) w := rfl
@[simp ↓] theorem opK_extract5_4 {P : Program} (x0 x1 x2 x3 x4 : Value) (ty : TypeId) (w : World) (K : Value → World → Prop) : opK P (.extract (.const (.tuple #[x0, x1, x2, x3, x4])) 4) ty w K = K (x4) w := opK_of (run_extract5_4 x0 x1 x2 x3 x4 ty w) rfl
@[simp ↓] theorem stK_extract5_4 {P : Program} (x0 x1 x2 x3 x4 : Value) (ty : TypeId) (w : World) (K : Value → Prop) : stK P (.extract (.const (.tuple #[x0, x1, x2, x3, x4])) 4) ty w K = K (x4) := stK_of (run_extract5_4 x0 x1 x2 x3 x4 ty w) rfl
theorem run_conv_int {P : Program} (k j : IntKind) (x : Int) (s t : TypeId) (hs : P.underlying s = some (.int j)) (h : P.underlying t = some (.int k)) (ty : TypeId) (w : World) : (execOp bare { dst := none, op := .convert s t (.const (.int j x)), type := ty, pos := "", after := #[], guard := none }).run P w = .ok (.value (.int k (k.wrap x))) w := by
  simp [execOp, bare, Act.eval, convert, underlying, hs, h, Conv.intToInt]
theorem opK_conv_int {P : Program} (k j : IntKind) (x : Int) (s t : TypeId) (hs : P.underlying s = some (.int j)) (h : P.underlying t = some (.int k)) (ty : TypeId) (w : World) (K : Value → World → Prop) : opK P (.convert s t (.const (.int j x))) ty w K = K (.int k (k.wrap x)) w := opK_of (run_conv_int k j x s t hs h ty w) rfl
theorem stK_conv_int {P : Program} (k j : IntKind) (x : Int) (s t : TypeId) (hs : P.underlying s = some (.int j)) (h : P.underlying t = some (.int k)) (ty : TypeId) (w : World) (K : Value → Prop) : stK P (.convert s t (.const (.int j x))) ty w K = K (.int k (k.wrap x)) := stK_of (run_conv_int k j x s t hs h ty w) rfl
@[simp ↓] theorem gK_glss {P : Program} (b want : Bool) (k : IntKind) (x y : Int) (t u ty : TypeId) (w : World) (K : Value → World → Prop) :
    gK (.bool b) want w (fun K => opK P (.binOp .lss t (.const (gv b want (.int k x))) (.const (.int k y)) u) ty w K) K = K (gv b want (.bool (decide (x < y)))) w := by
  unfold gK gv; simp only; split <;> simp
@[simp ↓] theorem gS_glss {P : Program} (b want : Bool) (k : IntKind) (x y : Int) (t u ty : TypeId) (w : World) (K : Value → Prop) :
    gS (.bool b) want (fun K => stK P (.binOp .lss t (.const (gv b want (.int k x))) (.const (.int k y)) u) ty w K) K = K (gv b want (.bool (decide (x < y)))) := by
  unfold gS gv; simp only; split <;> simp
@[simp ↓] theorem gK_lss {P : Program} (b want : Bool) (k : IntKind) (x y : Int) (t u ty : TypeId) (w : World) (K : Value → World → Prop) :
    gK (.bool b) want w (fun K => opK P (.binOp .lss t (.const (.int k x)) (.const (.int k y)) u) ty w K) K = K (gv b want (.bool (decide (x < y)))) w := by
  unfold gK gv; simp only; split <;> simp
@[simp ↓] theorem gS_lss {P : Program} (b want : Bool) (k : IntKind) (x y : Int) (t u ty : TypeId) (w : World) (K : Value → Prop) :
    gS (.bool b) want (fun K => stK P (.binOp .lss t (.const (.int k x)) (.const (.int k y)) u) ty w K) K = K (gv b want (.bool (decide (x < y)))) := by
  unfold gS gv; simp only; split <;> simp
@[simp ↓] theorem gK_gleq {P : Program} (b want : Bool) (k : IntKind) (x y : Int) (t u ty : TypeId) (w : World) (K : Value → World → Prop) :
    gK (.bool b) want w (fun K => opK P (.binOp .leq t (.const (gv b want (.int k x))) (.const (.int k y)) u) ty w K) K = K (gv b want (.bool (decide (x ≤ y)))) w := by
  unfold gK gv; simp only; split <;> simp
@[simp ↓] theorem gS_gleq {P : Program} (b want : Bool) (k : IntKind) (x y : Int) (t u ty : TypeId) (w : World) (K : Value → Prop) :
    gS (.bool b) want (fun K => stK P (.binOp .leq t (.const (gv b want (.int k x))) (.const (.int k y)) u) ty w K) K = K (gv b want (.bool (decide (x ≤ y)))) := by
  unfold gS gv; simp only; split <;> simp
@[simp ↓] theorem gK_leq {P : Program} (b want : Bool) (k : IntKind) (x y : Int) (t u ty : TypeId) (w : World) (K : Value → World → Prop) :
    gK (.bool b) want w (fun K => opK P (.binOp .leq t (.const (.int k x)) (.const (.int k y)) u) ty w K) K = K (gv b want (.bool (decide (x ≤ y)))) w := by
  unfold gK gv; simp only; split <;> simp
@[simp ↓] theorem gS_leq {P : Program} (b want : Bool) (k : IntKind) (x y : Int) (t u ty : TypeId) (w : World) (K : Value → Prop) :
    gS (.bool b) want (fun K => stK P (.binOp .leq t (.const (.int k x)) (.const (.int k y)) u) ty w K) K = K (gv b want (.bool (decide (x ≤ y)))) := by
  unfold gS gv; simp only; split <;> simp
@[simp ↓] theorem gK_ggtr {P : Program} (b want : Bool) (k : IntKind) (x y : Int) (t u ty : TypeId) (w : World) (K : Value → World → Prop) :
    gK (.bool b) want w (fun K => opK P (.binOp .gtr t (.const (gv b want (.int k x))) (.const (.int k y)) u) ty w K) K = K (gv b want (.bool (decide (x > y)))) w := by
  unfold gK gv; simp only; split <;> simp
@[simp ↓] theorem gS_ggtr {P : Program} (b want : Bool) (k : IntKind) (x y : Int) (t u ty : TypeId) (w : World) (K : Value → Prop) :
    gS (.bool b) want (fun K => stK P (.binOp .gtr t (.const (gv b want (.int k x))) (.const (.int k y)) u) ty w K) K = K (gv b want (.bool (decide (x > y)))) := by
  unfold gS gv; simp only; split <;> simp
@[simp ↓] theorem gK_gtr {P : Program} (b want : Bool) (k : IntKind) (x y : Int) (t u ty : TypeId) (w : World) (K : Value → World → Prop) :
    gK (.bool b) want w (fun K => opK P (.binOp .gtr t (.const (.int k x)) (.const (.int k y)) u) ty w K) K = K (gv b want (.bool (decide (x > y)))) w := by
  unfold gK gv; simp only; split <;> simp
@[simp ↓] theorem gS_gtr {P : Program} (b want : Bool) (k : IntKind) (x y : Int) (t u ty : TypeId) (w : World) (K : Value → Prop) :
    gS (.bool b) want (fun K => stK P (.binOp .gtr t (.const (.int k x)) (.const (.int k y)) u) ty w K) K = K (gv b want (.bool (decide (x > y)))) := by
  unfold gS gv; simp only; split <;> simp
@[simp ↓] theorem gK_ggeq {P : Program} (b want : Bool) (k : IntKind) (x y : Int) (t u ty : TypeId) (w : World) (K : Value → World → Prop) :
    gK (.bool b) want w (fun K => opK P (.binOp .geq t (.const (gv b want (.int k x))) (.const (.int k y)) u) ty w K) K = K (gv b want (.bool (decide (x ≥ y)))) w := by
  unfold gK gv; simp only; split <;> simp
@[simp ↓] theorem gS_ggeq {P : Program} (b want : Bool) (k : IntKind) (x y : Int) (t u ty : TypeId) (w : World) (K : Value → Prop) :
    gS (.bool b) want (fun K => stK P (.binOp .geq t (.const (gv b want (.int k x))) (.const (.int k y)) u) ty w K) K = K (gv b want (.bool (decide (x ≥ y)))) := by
  unfold gS gv; simp only; split <;> simp
@[simp ↓] theorem gK_geq {P : Program} (b want : Bool) (k : IntKind) (x y : Int) (t u ty : TypeId) (w : World) (K : Value → World → Prop) :
    gK (.bool b) want w (fun K => opK P (.binOp .geq t (.const (.int k x)) (.const (.int k y)) u) ty w K) K = K (gv b want (.bool (decide (x ≥ y)))) w := by
  unfold gK gv; simp only; split <;> simp
@[simp ↓] theorem gS_geq {P : Program} (b want : Bool) (k : IntKind) (x y : Int) (t u ty : TypeId) (w : World) (K : Value → Prop) :
    gS (.bool b) want (fun K => stK P (.binOp .geq t (.const (.int k x)) (.const (.int k y)) u) ty w K) K = K (gv b want (.bool (decide (x ≥ y)))) := by
  unfold gS gv; simp only; split <;> simp
@[simp ↓] theorem gK_geql {P : Program} (b want : Bool) (k : IntKind) (x y : Int) (t u ty : TypeId) (w : World) (K : Value → World → Prop) :
    gK (.bool b) want w (fun K => opK P (.binOp .eql t (.const (gv b want (.int k x))) (.const (.int k y)) u) ty w K) K = K (gv b want (.bool (x == y))) w := by
  unfold gK gv; simp only; split <;> simp
@[simp ↓] theorem gS_geql {P : Program} (b want : Bool) (k : IntKind) (x y : Int) (t u ty : TypeId) (w : World) (K : Value → Prop) :
    gS (.bool b) want (fun K => stK P (.binOp .eql t (.const (gv b want (.int k x))) (.const (.int k y)) u) ty w K) K = K (gv b want (.bool (x == y))) := by
  unfold gS gv; simp only; split <;> simp
@[simp ↓] theorem gK_eql {P : Program} (b want : Bool) (k : IntKind) (x y : Int) (t u ty : TypeId) (w : World) (K : Value → World → Prop) :
    gK (.bool b) want w (fun K => opK P (.binOp .eql t (.const (.int k x)) (.const (.int k y)) u) ty w K) K = K (gv b want (.bool (x == y))) w := by
  unfold gK gv; simp only; split <;> simp
@[simp ↓] theorem gS_eql {P : Program} (b want : Bool) (k : IntKind) (x y : Int) (t u ty : TypeId) (w : World) (K : Value → Prop) :
    gS (.bool b) want (fun K => stK P (.binOp .eql t (.const (.int k x)) (.const (.int k y)) u) ty w K) K = K (gv b want (.bool (x == y))) := by
  unfold gS gv; simp only; split <;> simp
@[simp ↓] theorem gK_gneq {P : Program} (b want : Bool) (k : IntKind) (x y : Int) (t u ty : TypeId) (w : World) (K : Value → World → Prop) :
    gK (.bool b) want w (fun K => opK P (.binOp .neq t (.const (gv b want (.int k x))) (.const (.int k y)) u) ty w K) K = K (gv b want (.bool (x != y))) w := by
  unfold gK gv; simp only; split <;> simp
@[simp ↓] theorem gS_gneq {P : Program} (b want : Bool) (k : IntKind) (x y : Int) (t u ty : TypeId) (w : World) (K : Value → Prop) :
    gS (.bool b) want (fun K => stK P (.binOp .neq t (.const (gv b want (.int k x))) (.const (.int k y)) u) ty w K) K = K (gv b want (.bool (x != y))) := by
  unfold gS gv; simp only; split <;> simp
@[simp ↓] theorem gK_neq {P : Program} (b want : Bool) (k : IntKind) (x y : Int) (t u ty : TypeId) (w : World) (K : Value → World → Prop) :
    gK (.bool b) want w (fun K => opK P (.binOp .neq t (.const (.int k x)) (.const (.int k y)) u) ty w K) K = K (gv b want (.bool (x != y))) w := by
  unfold gK gv; simp only; split <;> simp
@[simp ↓] theorem gS_neq {P : Program} (b want : Bool) (k : IntKind) (x y : Int) (t u ty : TypeId) (w : World) (K : Value → Prop) :
    gS (.bool b) want (fun K => stK P (.binOp .neq t (.const (.int k x)) (.const (.int k y)) u) ty w K) K = K (gv b want (.bool (x != y))) := by
  unfold gS gv; simp only; split <;> simp

/-! ### What comes first is worked out first: no simplifier goes into what follows -/
@[congr] theorem opK_congr {P : Program} {op op' : Op} {ty : TypeId} {w w' : World} {K : Value → World → Prop} (h : op = op') (hw : w = w') : opK P op ty w K = opK P op' ty w' K := by rw [h, hw]
@[congr] theorem stK_congr {P : Program} {op op' : Op} {ty : TypeId} {w w' : World} {K : Value → Prop} (h : op = op') (hw : w = w') : stK P op ty w K = stK P op' ty w' K := by rw [h, hw]
@[congr] theorem gK_congr {v v' : Value} {want : Bool} {w : World} {run : (Value → World → Prop) → Prop} {K : Value → World → Prop} (h : v = v') : gK v want w run K = gK v' want w run K := by rw [h]
@[congr] theorem gS_congr {v v' : Value} {want : Bool} {run : (Value → Prop) → Prop} {K : Value → Prop} (h : v = v') : gS v want run K = gS v' want run K := by rw [h]
@[congr] theorem boolK_congr {v v' : Value} {A B : Prop} (h : v = v') : boolK v A B = boolK v' A B := by rw [h]
@[congr] theorem valK_congr {v v' : Option Value} {K : Value → Prop} (h : v = v') : valK v K = valK v' K := by rw [h]
@[congr] theorem valsK_congr {v v' : Option (List Value)} {K : List Value → Prop} (h : v = v') : valsK v K = valsK v' K := by rw [h]
@[congr] theorem blkK_congr {v v' : Option Obj} {K : Array Value → TypeId → Nat × Nat → Prop} (h : v = v') : blkK v K = blkK v' K := by rw [h]
@[congr] theorem ld1_congr {a a' : Value} {w w' : World} {K : Value → World → Prop} (h : a = a') (hw : w = w') : ld1 a w K = ld1 a' w' K := by rw [h, hw]
@[congr] theorem ldn_congr {n : Nat} {a a' : Value} {w w' : World} {K : Value → World → Prop} (h : a = a') (hw : w = w') : ldn n a w K = ldn n a' w' K := by rw [h, hw]
@[congr] theorem st1_congr {a a' v v' : Value} {w w' : World} {K : Value → World → Prop} (h : a = a') (h2 : v = v') (hw : w = w') : st1 a v w K = st1 a' v' w' K := by rw [h, h2, hw]
@[congr] theorem stn_congr {n : Nat} {a a' v v' : Value} {w w' : World} {K : Value → World → Prop} (h : a = a') (h2 : v = v') (hw : w = w') : stn n a v w K = stn n a' v' w' K := by rw [h, h2, hw]
@[congr] theorem callK_congr {P : Program} {f : FuncId} {args args' : Array Value} {w w' : World} {K : Value → World → Prop} (h : args = args') (hw : w = w') : callK P f args w K = callK P f args' w' K := by rw [h, hw]
@[congr] theorem stcK_congr {P : Program} {f : FuncId} {args args' : Array Value} {w w' : World} {K : Value → Prop} (h : args = args') (hw : w = w') : stcK P f args w K = stcK P f args' w' K := by rw [h, hw]
@[congr] theorem joinK_congr {n : Nat} {b : Fn n → Prop} {a : Fn n} : joinK n b a = joinK n b a := rfl

/-! ### Worlds -/
@[simp] theorem heap_drew (w : World) : w.drew.heap = w.heap := rfl
@[simp] theorem size_putB (w : World) (b : Nat) (o : Obj) : (putB w b o).heap.size = w.heap.size := by simp [putB]
theorem putB_same {w : World} {b : Nat} (h : b < w.heap.size) (o : Obj) : (putB w b o).heap[b]? = some o := putB_blk h o
theorem putB_other {w : World} {b c : Nat} (h : c ≠ b) (o : Obj) : (putB w b o).heap[c]? = w.heap[c]? := by
  unfold putB
  simp only [Array.getElem?_setIfInBounds]
  rw [if_neg (fun e => h e.symm)]
@[simp] theorem size_alloc' (w : World) (o : Obj) : (w.alloc o).heap.size = w.heap.size + 1 := by
  show (w.heap.push o).size = _
  simp
@[simp] theorem alloc_new (w : World) (o : Obj) : (w.alloc o).heap[w.heap.size]? = some o := by
  show (w.heap.push o)[w.heap.size]? = _
  simp
theorem alloc_old {w : World} {c : Nat} (h : c < w.heap.size) (o : Obj) : (w.alloc o).heap[c]? = w.heap[c]? := by
  show (w.heap.push o)[c]? = _
  rw [Array.getElem?_push, if_neg (by omega)]

/-- What lay outside F lies as it lay; nothing went. -/
structure Upd (F : Nat → Prop) (w w' : World) : Prop where
  os : w'.os = w.os
  tape : w'.tape = w.tape
  output : w'.output = w.output
  size : w.heap.size ≤ w'.heap.size
  old : ∀ b, b < w.heap.size → ¬ F b → w'.heap[b]? = w.heap[b]?

theorem Upd.refl (F : Nat → Prop) (w : World) : Upd F w w := ⟨rfl, rfl, rfl, Nat.le_refl _, fun _ _ _ => rfl⟩
theorem Upd.drew {F : Nat → Prop} {w w' : World} (h : Upd F w w') : Upd F w w'.drew := ⟨h.os, h.tape, h.output, h.size, h.old⟩
theorem Upd.alloc {F : Nat → Prop} {w w' : World} (h : Upd F w w') (o : Obj) : Upd F w (w'.alloc o) :=
  ⟨h.os, h.tape, h.output, by simp; have := h.size; omega, fun b hb hF => by rw [alloc_old (by have := h.size; omega)]; exact h.old b hb hF⟩
theorem Upd.putB {F : Nat → Prop} {w w' : World} (h : Upd F w w') {b : Nat} (hb : w.heap.size ≤ b ∨ F b) (o : Obj) : Upd F w (putB w' b o) :=
  ⟨h.os, h.tape, h.output, by simp; exact h.size, fun c hc hF => by
    rw [putB_other (fun e => by subst e; rcases hb with hb | hb; omega; exact hF hb)]; exact h.old c hc hF⟩
theorem Upd.trans {F G : Nat → Prop} {a b c : World} (h : Upd F a b) (k : Upd G b c) (hG : ∀ x, x < a.heap.size → G x → F x) : Upd F a c :=
  ⟨k.os.trans h.os, k.tape.trans h.tape, k.output.trans h.output, Nat.le_trans h.size k.size, fun x hx hF =>
    (k.old x (Nat.lt_of_lt_of_le hx h.size) (fun g => hF (hG x hx g))).trans (h.old x hx hF)⟩
theorem Upd.mono {F G : Nat → Prop} {a b : World} (h : Upd F a b) (hG : ∀ x, F x → G x) : Upd G a b := ⟨h.os, h.tape, h.output, h.size, fun x hx hn => h.old x hx (fun f => hn (hG x f))⟩
theorem Upd.grown {F : Nat → Prop} {w w' : World} {row : Option Nat} (hg : w.grownBy w' row) (hr : ∀ k, row = some k → F k) : Upd F w w' :=
  ⟨hg.os, hg.tape, hg.output, hg.size, fun b hb hF => hg.block b hb (fun e => hF (hr b e.symm))⟩
theorem Upd.below {w w' : World} (h : Upd (fun _ => False) w w') : RowKit.Below w.heap.size w w' := ⟨h.os, h.tape, h.output, h.size, fun k hk => h.old k hk (fun f => f)⟩

/-! ### Operations that make memory -/
@[simp ↓] theorem opK_box {P : Program} (t : TypeId) (v : Value) (ty : TypeId) (w : World) (K : Value → World → Prop) :
    opK P (.box t (.const v)) ty w K = K (.pointer (some ⟨w.heap.size, 0, none⟩)) (w.alloc (.cells v.cells t)) := rfl
@[simp ↓] theorem opK_makeMap {P : Program} (t : TypeId) (ty : TypeId) (w : World) (K : Value → World → Prop) :
    opK P (.makeMap t none) ty w K = K (.map (some w.heap.size)) (w.alloc (.map #[] 0)) := rfl

/-! ### Calls -/
theorem callK_of {P : Program} {f : FuncId} {args : Array Value} {w : World} {K : Value → World → Prop} {R : Ending → World → Prop} (h : Calls P f args w R)
    (hK : ∀ e w', R e w' → ∃ v, e = .returned v ∧ K v w') : callK P f args w K := Calls.mono h hK
/-- A call of a function value that is a function of the text, with what it has captured. -/
theorem opK_callv {P : Program} {g : FuncId} (h : enters P g = true) (cap : Array Value) (args : Array Operand) (ts : Array TypeId) (ty : TypeId) (w : World) (K : Value → World → Prop) :
    opK P (.call ⟨.value (.const (.func (.func g) #[] cap)), args, ts⟩) ty w K = callK P g (args.map bare ++ cap) w K := by
  show runK P K _ = _
  have : bare (.const (.func (.func g) #[] cap)) = .func (.func g) #[] cap := rfl
  simp only [execOp, resolve, Deferred.ofValue, this, pure_bind, invoke, Array.empty_append]
  rw [enters_run h]
  rfl

theorem LeFn.refl : ∀ (n : Nat) (f : Fn n), LeFn n f f
  | 0, _ => fun _ h => h
  | n + 1, f => fun v => LeFn.refl n (f v)
theorem joinK_now {n : Nat} {body : Fn n → Prop} {after : Fn n} (h : body after) : joinK n body after := ⟨after, h, LeFn.refl n after⟩
theorem joinK0 {body : (World → Prop) → Prop} {after : World → Prop} (M : World → Prop) (h : body M) (ha : ∀ w, M w → after w) : joinK 0 body after := ⟨M, h, ha⟩
theorem joinK1 {body : (Value → World → Prop) → Prop} {after : Value → World → Prop} (M : Value → World → Prop) (h : body M) (ha : ∀ v w, M v w → after v w) : joinK 1 body after := ⟨M, h, ha⟩
theorem joinK2 {body : (Value → Value → World → Prop) → Prop} {after : Value → Value → World → Prop} (M : Value → Value → World → Prop) (h : body M) (ha : ∀ v u w, M v u w → after v u w) : joinK 2 body after := ⟨M, h, ha⟩
theorem loopK0 {B : (World → Prop) → World → Prop} {w : World} (I : Nat → World → Prop) (m : Nat) (h0 : I m w)
    (hr : ∀ m w, I m w → B (fun w => ∃ m', m' < m ∧ I m' w) w) : (loopK 0 B : World → Prop) w := ⟨I, m, h0, hr⟩
theorem loopK1 {B : (Value → World → Prop) → Value → World → Prop} {v : Value} {w : World} (I : Nat → Value → World → Prop) (m : Nat) (h0 : I m v w)
    (hr : ∀ m v w, I m v w → B (fun v w => ∃ m', m' < m ∧ I m' v w) v w) : (loopK 1 B : Value → World → Prop) v w := ⟨I, m, h0, hr⟩
theorem loopK2 {B : (Value → Value → World → Prop) → Value → Value → World → Prop} {v u : Value} {w : World} (I : Nat → Value → Value → World → Prop) (m : Nat) (h0 : I m v u w)
    (hr : ∀ m v u w, I m v u w → B (fun v u w => ∃ m', m' < m ∧ I m' v u w) v u w) : (loopK 2 B : Value → Value → World → Prop) v u w := ⟨I, m, h0, hr⟩
theorem loopK3 {B : (Value → Value → Value → World → Prop) → Value → Value → Value → World → Prop} {v u x : Value} {w : World} (I : Nat → Value → Value → Value → World → Prop) (m : Nat) (h0 : I m v u x w)
    (hr : ∀ m v u x w, I m v u x w → B (fun v u x w => ∃ m', m' < m ∧ I m' v u x w) v u x w) : (loopK 3 B : Value → Value → Value → World → Prop) v u x w := ⟨I, m, h0, hr⟩

theorem wrap_i64 {x : Int} (h1 : -9223372036854775808 ≤ x) (h2 : x ≤ 9223372036854775807) : IntKind.i64.wrap x = x := by
  rw [IntKind.wrap_i64]
  omega
end Go.Vk
