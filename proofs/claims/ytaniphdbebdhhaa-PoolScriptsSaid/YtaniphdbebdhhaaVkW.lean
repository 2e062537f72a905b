/-
  What a function's code comes to, as a proposition without frames: 'W' over the code, and that it is sound ('calls_of_W').
  No condition. Nothing of any program stands here.
-/
import Derived.WalkKit
import Derived.StillTail
import Derived.Orders
namespace Go.Vk

/-! ### What is known of the temporaries -/
abbrev Env := List (Nat × Value)

noncomputable def Env.get (e : List (Nat × Value)) (t : Nat) : Option Value :=
  @List.rec (Nat × Value) (fun _ => Option Value) none (fun p _ ih => @Bool.rec (fun _ => Option Value) ih (some p.2) (Nat.beq p.1 t)) e

theorem Env.get_nil (t : Nat) : Env.get [] t = none := rfl
theorem Env.get_cons (s : Nat) (v : Value) (e : List (Nat × Value)) (t : Nat) : Env.get ((s, v) :: e) t = match Nat.beq s t with
    | true => some v
    | false => Env.get e t := by
  show @Bool.rec (fun _ => Option Value) (Env.get e t) (some v) (Nat.beq s t) = _
  cases Nat.beq s t <;> rfl

def Env.put (e : Env) (d : Option Tmp) (v : Value) : Env := match d with
  | some d => (d, v) :: e
  | none => e

noncomputable def Env.known (e : Env) : Operand → Bool
  | .tmp t => (Env.get e t).isSome
  | _ => true

/-- An operand with what is known laid in. -/
noncomputable def Env.sub (e : Env) : Operand → Operand
  | .tmp t => .const ((Env.get e t).getD undef)
  | x => x

/-- The bare reading of operands. -/
def bare : Operand → Value := Act.eval { tmps := #[], defers := [] }

/-- The operations that are taken. -/
noncomputable def subst (e : Env) : Op → Option Op
  | .move x => some (.move (e.sub x))
  | .assign x => some (.assign (e.sub x))
  | .pick c a b => some (.pick (e.sub c) (e.sub a) (e.sub b))
  | .alloc t => some (.alloc t)
  | .box t x => some (.box t (e.sub x))
  | .build t ps => some (.build t (ps.map fun p => (p.1, e.sub p.2)))
  | .buildSlice t n ps => some (.buildSlice t n (ps.map fun p => (p.1, e.sub p.2)))
  | .load t a => some (.load t (e.sub a))
  | .store t a x => some (.store t (e.sub a) (e.sub x))
  | .nilCheck x => some (.nilCheck (e.sub x))
  | .binOp op t x y u => some (.binOp op t (e.sub x) (e.sub y) u)
  | .unOp op t x => some (.unOp op t (e.sub x))
  | .convert s d x => some (.convert s d (e.sub x))
  | .makeFunc f a c => some (.makeFunc f (a.map e.sub) (c.map e.sub))
  | .makeMap t none => some (.makeMap t none)
  | .makeSlice t l c => some (.makeSlice t (e.sub l) (e.sub c))
  | .slice t x l h m => some (.slice t (e.sub x) (l.map e.sub) (h.map e.sub) (m.map e.sub))
  | .fieldAddr t x f => some (.fieldAddr t (e.sub x) f)
  | .field t x f => some (.field t (e.sub x) f)
  | .indexAddr t x i => some (.indexAddr t (e.sub x) (e.sub i))
  | .index t x i => some (.index t (e.sub x) (e.sub i))
  | .lookup t x i ok => some (.lookup t (e.sub x) (e.sub i) ok)
  | .mapUpdate t m k v => some (.mapUpdate t (e.sub m) (e.sub k) (e.sub v))
  | .range t x => some (.range t (e.sub x))
  | .next it s => some (.next (e.sub it) s)
  | .entry it => some (.entry (e.sub it))
  | .extract t i => some (.extract (e.sub t) i)
  | .makeInterface t x => some (.makeInterface t (e.sub x))
  | .call ⟨.value f, args, ts⟩ => some (.call ⟨.value (e.sub f), args.map e.sub, ts⟩)
  | .call ⟨.builtin .append, args, ts⟩ => some (.call ⟨.builtin .append, args.map e.sub, ts⟩)
  | .call ⟨.builtin .len, args, ts⟩ => some (.call ⟨.builtin .len, args.map e.sub, ts⟩)
  | .call ⟨.builtin .cap, args, ts⟩ => some (.call ⟨.builtin .cap, args.map e.sub, ts⟩)
  | .call ⟨.builtin .copy, args, ts⟩ => some (.call ⟨.builtin .copy, args.map e.sub, ts⟩)
  | .call ⟨.builtin .clear, args, ts⟩ => some (.call ⟨.builtin .clear, args.map e.sub, ts⟩)
  | .call ⟨.builtin .delete, args, ts⟩ => some (.call ⟨.builtin .delete, args.map e.sub, ts⟩)
  | .call ⟨.builtin .max, args, ts⟩ => some (.call ⟨.builtin .max, args.map e.sub, ts⟩)
  | .call ⟨.builtin .min, args, ts⟩ => some (.call ⟨.builtin .min, args.map e.sub, ts⟩)
  | _ => none

theorem beq_false {a b : Nat} (h : a ≠ b) : Nat.beq a b = false := by
  rw [Bool.eq_false_iff]; intro hh; exact h (Nat.eq_of_beq_eq_true hh)

/-- Two nil interface values are not held against each other. -/
def okOp : Op → Bool
  | .binOp .eql _ (.const .nilIface) (.const .nilIface) _ | .binOp .neq _ (.const .nilIface) (.const .nilIface) _ => false
  | _ => true

def Agrees (e : Env) (a : Act) : Prop := ∀ t v, Env.get e t = some v → a.tmps[t]? = some v

theorem Agrees.eval {e : Env} {a : Act} (h : Agrees e a) {x : Operand} (hk : e.known x = true) : a.eval x = bare (e.sub x) := by
  cases x with
  | tmp t =>
    simp only [Env.known, Option.isSome_iff_exists] at hk
    obtain ⟨v, hv⟩ := hk
    have := h t v hv
    simp [Act.eval, Env.sub, bare, hv, Array.getD_eq_getD_getElem?, this]
  | const v => rfl
  | global g => rfl
  | func f => rfl

theorem map_eval {e : Env} {a : Act} (h : Agrees e a) (xs : Array Operand) (hk : ∀ x ∈ xs, e.known x = true) : xs.map a.eval = (xs.map e.sub).map bare := by
  rw [Array.map_map]
  exact Array.map_congr_left fun x hx => h.eval (hk x hx)

theorem omap_eval {e : Env} {a : Act} (h : Agrees e a) (x : Option Operand) (hk : ∀ y, x = some y → e.known y = true) : x.map a.eval = (x.map e.sub).map bare := by
  cases x with
  | none => rfl
  | some y => simp only [Option.map_some, h.eval (hk y rfl)]

theorem pairs_eval {e : Env} {a : Act} (h : Agrees e a) (ps : Array (Nat × Operand)) (hk : ∀ x ∈ ps.toList.map (·.2), e.known x = true) :
    (ps.map fun (i, x) => (i, a.eval x)) = ((ps.map fun p => (p.1, e.sub p.2)).map fun (i, x) => (i, bare x)) := by
  rw [Array.map_map]
  refine Array.map_congr_left fun p hp => ?_
  obtain ⟨i, x⟩ := p
  simp only [Function.comp]
  rw [h.eval (hk x (List.mem_map.2 ⟨(i, x), Array.mem_toList_iff.2 hp, rfl⟩))]

/-- An operation over what is known is the operation. -/
theorem execOp_subst {e : Env} {a : Act} (h : Agrees e a) (o : Oper) {op' : Op} (hs : subst e o.op = some op') (hk : ∀ x ∈ o.op.operands, e.known x = true) (hok : okOp op' = true) :
    execOp a.eval o = execOp bare { dst := none, op := op', type := o.type, pos := "", after := #[], guard := none } := by
  obtain ⟨dst, op, type, pos, after, guard⟩ := o
  simp only at hs hk ⊢
  cases op <;> simp only [subst, Option.some.injEq, reduceCtorEq] at hs
  case call c =>
    obtain ⟨cal, args, ts⟩ := c
    have ha : ∀ x ∈ args, e.known x = true := fun x hx => hk x (by simp [Op.operands, Call.operands, hx])
    cases cal with
    | value f =>
      simp only [Option.some.injEq] at hs
      subst hs
      have hf : e.known f = true := hk f (by simp [Op.operands, Call.operands])
      simp only [execOp, resolve, map_eval h args ha, h.eval hf]
    | invoke r m => simp at hs
    | builtin b => cases b <;> simp only [Option.some.injEq, reduceCtorEq] at hs <;> subst hs <;> simp only [execOp, resolve, map_eval h args ha] <;> rfl
  case build t ps =>
    subst hs
    simp only [execOp]
    rw [pairs_eval h ps (fun x hx => hk x (by simpa [Op.operands] using hx))]
  case buildSlice t n ps =>
    subst hs
    simp only [execOp]
    rw [pairs_eval h ps (fun x hx => hk x (by simpa [Op.operands] using hx))]
  case makeFunc fn first captured =>
    subst hs
    simp only [execOp]
    rw [map_eval h first (fun x hx => hk x (by simp [Op.operands, hx])), map_eval h captured (fun x hx => hk x (by simp [Op.operands, hx]))]
  case makeMap t r =>
    cases r with
    | none => simp only [Option.some.injEq] at hs; subst hs; rfl
    | some r => simp at hs
  case slice t x lo hi mx =>
    subst hs
    simp only [execOp]
    rw [h.eval (hk x (by simp [Op.operands])), omap_eval h lo (fun y hy => hk y (by simp [Op.operands, hy])), omap_eval h hi (fun y hy => hk y (by simp [Op.operands, hy])), omap_eval h mx (fun y hy => hk y (by simp [Op.operands, hy]))]
  case alloc t => subst hs; rfl
  case binOp op t x y u =>
    subst hs
    simp only [Op.operands, List.mem_toArray, List.mem_cons, List.not_mem_nil, or_false, forall_eq_or_imp, forall_eq] at hk
    simp only [execOp]
    rw [h.eval hk.1, h.eval hk.2]
    have hg : eqGuard op t x y (bare (e.sub x)) (bare (e.sub y)) = eqGuard op t (e.sub x) (e.sub y) (bare (e.sub x)) (bare (e.sub y)) := by
      unfold eqGuard
      by_cases ho : op = .eql ∨ op = .neq
      · have hn : ¬ (bare (e.sub x) = .nilIface ∧ bare (e.sub y) = .nilIface) := by
          rintro ⟨h1, h2⟩
          have g1 : e.sub x = .const .nilIface := by
            cases x <;> simp_all [Env.sub, bare, Act.eval]
          have g2 : e.sub y = .const .nilIface := by
            cases y <;> simp_all [Env.sub, bare, Act.eval]
          rw [g1, g2] at hok
          rcases ho with rfl | rfl <;> simp [okOp] at hok
        generalize bare (e.sub x) = vx at hn
        generalize bare (e.sub y) = vy at hn
        cases vx <;> cases vy <;> first | rfl | exact absurd ⟨rfl, rfl⟩ hn
      · cases op <;> first | rfl | exact absurd (.inl rfl) ho | exact absurd (.inr rfl) ho
    rw [hg]
  all_goals
    subst hs
    simp only [Op.operands, List.mem_toArray, List.mem_cons, List.not_mem_nil, or_false, forall_eq_or_imp, forall_eq] at hk
    simp only [execOp]
    first
      | rw [h.eval hk]
      | rw [h.eval hk.1, h.eval hk.2.1, h.eval hk.2.2.1, h.eval hk.2.2.2]
      | rw [h.eval hk.1, h.eval hk.2.1, h.eval hk.2.2]
      | rw [h.eval hk.1, h.eval hk.2]

/-! ### One operation -/
def callK (P : Program) (f : FuncId) (args : Array Value) (w : World) (K : Value → World → Prop) : Prop :=
  Calls P f args w fun e w' => ∃ v, e = .returned v ∧ K v w'

def runK (P : Program) (K : Value → World → Prop) : Result Next → Prop
  | .ok (.value v) w' => K v w'
  | .ok .skip w' => K undef w'
  | .ok (.enter f args) w' => callK P f args w' K
  | _ => False

/-- What an operation comes to. -/
def opK (P : Program) (op : Op) (ty : TypeId) (w : World) (K : Value → World → Prop) : Prop := match okOp op with
  | true => runK P K ((execOp bare { dst := none, op, type := ty, pos := "", after := #[], guard := none }).run P w)
  | false => False

/-- The same where the world must stay. -/
def runS (P : Program) (w : World) (K : Value → Prop) : Result Next → Prop
  | .ok (.value v) w' => w' = w ∧ K v
  | .ok .skip w' => w' = w ∧ K undef
  | .ok (.enter f args) w' => w' = w ∧ ∃ v, Calls P f args w (fun e w'' => e = .returned v ∧ w'' = w) ∧ K v
  | _ => False

def stK (P : Program) (op : Op) (ty : TypeId) (w : World) (K : Value → Prop) : Prop := match okOp op with
  | true => runS P w K ((execOp bare { dst := none, op, type := ty, pos := "", after := #[], guard := none }).run P w)
  | false => False

def boolK (v : Value) (A B : Prop) : Prop := match v with
  | .bool b => if b = true then A else B
  | _ => False

/-! ### Memory, a block at a time -/
def putB (w : World) (b : Nat) (o : Obj) : World := { w with heap := w.heap.setIfInBounds b o }

def blkK (o : Option Obj) (K : Array Value → TypeId → Nat × Nat → Prop) : Prop := match o with
  | some (.cells cs T fr) => K cs T fr
  | _ => False

/-- n cells from o on. -/
def readN (cs : Array Value) : Nat → Nat → Option (List Value)
  | _, 0 => some []
  | o, n + 1 => match cs[o]? with
    | some v => match readN cs (o + 1) n with
      | some vs => some (v :: vs)
      | none => none
    | none => none

def writeN (cs : Array Value) : Nat → List Value → Array Value
  | _, [] => cs
  | o, v :: vs => writeN (cs.setIfInBounds o v) (o + 1) vs

def valK (v : Option Value) (K : Value → Prop) : Prop := match v with
  | some v => K v
  | none => False

def valsK (v : Option (List Value)) (K : List Value → Prop) : Prop := match v with
  | some v => K v
  | none => False

/-- A load of one cell. -/
def ld1 (a : Value) (w : World) (K : Value → World → Prop) : Prop := match a with
  | .pointer (some ⟨b, o, none⟩) => blkK w.heap[b]? fun cs _ _ => valK cs[o]? fun v => K v w
  | _ => False

/-- A load of n cells. -/
def ldn (n : Nat) (a : Value) (w : World) (K : Value → World → Prop) : Prop := match a with
  | .pointer (some ⟨b, o, none⟩) => blkK w.heap[b]? fun cs _ _ => valsK (readN cs o n) fun vs => K (.agg vs.toArray) w
  | _ => False

/-- A store of one cell. -/
def st1 (a v : Value) (w : World) (K : Value → World → Prop) : Prop := match a with
  | .pointer (some ⟨b, o, none⟩) => blkK w.heap[b]? fun cs T fr => fr = (0, 0) ∧ o < cs.size ∧ v.oneCell' = true ∧ K undef (putB w b (.cells (cs.setIfInBounds o v) T (0, 0)))
  | _ => False

/-- A store of n cells. -/
def stn (n : Nat) (a v : Value) (w : World) (K : Value → World → Prop) : Prop := match a, v with
  | .pointer (some ⟨b, o, none⟩), .agg vs => blkK w.heap[b]? fun cs T fr => fr = (0, 0) ∧ vs.size = n ∧ o + n ≤ cs.size ∧ vs.toList.all Value.oneCell' = true ∧ K undef (putB w b (.cells (writeN cs o vs.toList) T (0, 0)))
  | _, _ => False

theorem blkK_spec {o : Option Obj} {K : Array Value → TypeId → Nat × Nat → Prop} (h : blkK o K) : ∃ cs T fr, o = some (.cells cs T fr) ∧ K cs T fr := by
  unfold blkK at h
  split at h
  · exact ⟨_, _, _, rfl, h⟩
  · exact h.elim

theorem valK_spec {o : Option Value} {K : Value → Prop} (h : valK o K) : ∃ v, o = some v ∧ K v := by
  unfold valK at h
  split at h
  · exact ⟨_, rfl, h⟩
  · exact h.elim

theorem valsK_spec {o : Option (List Value)} {K : List Value → Prop} (h : valsK o K) : ∃ v, o = some v ∧ K v := by
  unfold valsK at h
  split at h
  · exact ⟨_, rfl, h⟩
  · exact h.elim

/-- How a type lies: none: no such type; some none: in one cell; some (some n): an aggregate of n cells. -/
def lies (P : Program) (t : TypeId) : Option (Option Nat) := match P.underlying t, P.info? t with
  | some (.struct _), some i => some (some i.size)
  | some (.array _ _), some i => some (some i.size)
  | some _, some i => match Nat.beq i.size 1 with
    | true => some none
    | false => none
  | _, _ => none

theorem lies_one {P : Program} {t : TypeId} (h : lies P t = some none) (w : World) : (isAgg t).run P w = .ok false w ∧ (sizeOf t).run P w = .ok 1 w := by
  unfold lies at h
  split at h
  · simp at h
  · simp at h
  · rename_i d i h1 h2 hu hi
    split at h
    · rename_i hs
      have hs' : i.size = 1 := Nat.eq_of_beq_eq_true hs
      refine ⟨?_, ?_⟩
      · unfold isAgg
        rw [Sem.run_bind, run_underlying hu]
        cases d <;> first | rfl | exact absurd rfl (h2 _ _) | exact absurd rfl (h1 _)
      · simp [sizeOf, typeInfo, hi, hs']
    · cases h
  · cases h

theorem lies_agg {P : Program} {t : TypeId} {n : Nat} (h : lies P t = some (some n)) (w : World) : (isAgg t).run P w = .ok true w ∧ (sizeOf t).run P w = .ok n w := by
  unfold lies at h
  split at h
  · rename_i fs i hu hi
    simp at h; subst h
    exact ⟨by unfold isAgg; rw [Sem.run_bind, run_underlying hu]; rfl, by simp [sizeOf, typeInfo, hi]⟩
  · rename_i l e i hu hi
    simp at h; subst h
    exact ⟨by unfold isAgg; rw [Sem.run_bind, run_underlying hu]; rfl, by simp [sizeOf, typeInfo, hi]⟩
  · split at h <;> simp at h
  · cases h

theorem cell_of_blk {w : World} {b o : Nat} {cs : Array Value} {T : TypeId} {fr : Nat × Nat} (h : w.heap[b]? = some (.cells cs T fr)) : w.cell? ⟨b, o, none⟩ = cs[o]? := by
  simp [World.cell?, h]

theorem setCell_of_blk {w : World} {b o : Nat} {cs : Array Value} {T : TypeId} {fr : Nat × Nat} (h : w.heap[b]? = some (.cells cs T fr)) (v : Value) :
    w.setCell ⟨b, o, none⟩ v = putB w b (.cells (cs.setIfInBounds o v) T fr) := by
  unfold World.setCell putB
  congr 1
  apply Array.ext_getElem?
  intro i
  rw [Array.getElem?_modify, Array.getElem?_setIfInBounds]
  by_cases e : b = i
  · subst e
    have hb : b < w.heap.size := by
      rcases Nat.lt_or_ge b w.heap.size with h' | h'
      · exact h'
      · rw [Array.getElem?_eq_none h'] at h; cases h
    have hg : w.heap[b] = .cells cs T fr := by simpa [hb] using h
    simp [hb, hg]
  · rw [if_neg e, if_neg e]

theorem putB_blk {w : World} {b : Nat} (h : b < w.heap.size) (o' : Obj) : (putB w b o').heap[b]? = some o' := by simp [putB, h]
theorem putB_putB (w : World) (b : Nat) (o o' : Obj) : putB (putB w b o) b o' = putB w b o' := by
  unfold putB
  congr 1
  apply Array.ext_getElem?
  intro i
  simp only [Array.getElem?_setIfInBounds, Array.size_setIfInBounds]
  split <;> rfl
theorem blk_lt {w : World} {b : Nat} {o : Obj} (h : w.heap[b]? = some o) : b < w.heap.size := by
  rcases Nat.lt_or_ge b w.heap.size with h' | h'
  · exact h'
  · rw [Array.getElem?_eq_none h'] at h; cases h
theorem putB_self {w : World} {b : Nat} {o : Obj} (h : w.heap[b]? = some o) : putB w b o = w := by
  unfold putB
  have : w.heap.setIfInBounds b o = w.heap := by
    apply Array.ext_getElem?
    intro i
    rw [Array.getElem?_setIfInBounds]
    split
    · rename_i e; subst e
      have hg : w.heap[b]'(blk_lt h) = o := by simpa [blk_lt h] using h
      simp [blk_lt h, hg]
    · rfl
  rw [this]

theorem ld1_run {P : Program} {t : TypeId} {a : Value} {w : World} {K : Value → World → Prop} (hl : lies P t = some none) (h : ld1 a w K) : ∃ v, (Instr.loadAt t a).run P w = .ok v w ∧ K v w := by
  unfold ld1 at h
  split at h
  case h_2 => exact h.elim
  rename_i b o
  obtain ⟨cs, T, fr, hb, h⟩ := blkK_spec h
  obtain ⟨v, hv, hK⟩ := valK_spec h
  refine ⟨v, ?_, hK⟩
  simp only [Instr.loadAt, Instr.sureAddr, pure_bind, loadVar, Sem.run_bind, (lies_one hl w).1, Result.andThen_ok, Bool.false_eq_true, if_false, run_load, cell_of_blk hb, hv]

theorem add_off (b o i : Nat) : (⟨b, o, none⟩ : Addr).add i = ⟨b, o + i, none⟩ := by
  unfold Addr.add
  split
  · rename_i h; subst h; rfl
  · rfl

theorem loadCells_run {P : Program} {w : World} {b o : Nat} {cs : Array Value} {T : TypeId} {fr : Nat × Nat} (hb : w.heap[b]? = some (.cells cs T fr)) :
    ∀ (n i : Nat) (acc : Array Value) (vs : List Value), readN cs (o + i) n = some vs → (loadCellsFrom ⟨b, o, none⟩ i n acc).run P w = .ok (acc ++ vs.toArray) w
  | 0, i, acc, vs, h => by simp [readN] at h; subst h; simp [loadCellsFrom]
  | n + 1, i, acc, vs, h => by
    simp only [readN] at h
    split at h
    case h_2 => cases h
    rename_i v hv
    split at h
    case h_2 => cases h
    rename_i vs' hvs
    simp at h; subst h
    simp only [loadCellsFrom, Sem.run_bind, run_load, add_off, cell_of_blk hb, hv, Result.andThen_ok]
    rw [loadCells_run hb n (i + 1) _ vs' (by rw [← Nat.add_assoc]; exact hvs)]
    congr 1
    apply Array.ext'
    simp

theorem ldn_run {P : Program} {t : TypeId} {n : Nat} {a : Value} {w : World} {K : Value → World → Prop} (hl : lies P t = some (some n)) (h : ldn n a w K) : ∃ v, (Instr.loadAt t a).run P w = .ok v w ∧ K v w := by
  unfold ldn at h
  split at h
  case h_2 => exact h.elim
  rename_i b o
  obtain ⟨cs, T, fr, hb, h⟩ := blkK_spec h
  obtain ⟨vs, hv, hK⟩ := valsK_spec h
  refine ⟨_, ?_, hK⟩
  have := loadCells_run (P := P) (o := o) hb n 0 #[] vs hv
  simp only [Instr.loadAt, Instr.sureAddr, pure_bind, loadVar, Sem.run_bind, (lies_agg hl w).1, (lies_agg hl w).2, Result.andThen_ok, if_true, loadCells, this]
  simp

theorem cells_one {v : Value} (h : v.oneCell' = true) : v.cells = #[v] := by cases v <;> first | rfl | simp [Value.oneCell'] at h

theorem frozen_none {w : World} {b o : Nat} {cs : Array Value} {T : TypeId} (h : w.heap[b]? = some (.cells cs T (0, 0))) : w.frozen? ⟨b, o, none⟩ = false := by
  simp [World.frozen?, h]

theorem store_blk {P : Program} {w : World} {b o : Nat} {cs : Array Value} {T : TypeId} (hb : w.heap[b]? = some (.cells cs T (0, 0))) (ho : o < cs.size) {v : Value} (hv : v.oneCell' = true) :
    (store ⟨b, o, none⟩ v).run P w = .ok () (putB w b (.cells (cs.setIfInBounds o v) T (0, 0))) := by
  rw [run_store P w _ v _ hv, cell_of_blk hb, frozen_none hb, setCell_of_blk hb]
  simp [ho]

theorem storeCells_blk {P : Program} {b o : Nat} {T : TypeId} : ∀ (vs : List Value) (i : Nat) (w : World) (cs : Array Value), w.heap[b]? = some (.cells cs T (0, 0)) → o + i + vs.length ≤ cs.size → vs.all Value.oneCell' = true →
    (storeCells ⟨b, o, none⟩ vs i).run P w = .ok () (putB w b (.cells (writeN cs (o + i) vs) T (0, 0)))
  | [], i, w, cs, hb, _, _ => by simp [storeCells, writeN, putB_self hb]
  | v :: vs, i, w, cs, hb, hl, hv => by
    simp only [List.all_cons, Bool.and_eq_true] at hv
    simp only [List.length_cons] at hl
    simp only [storeCells, Sem.run_bind, add_off, store_blk hb (show o + i < cs.size by omega) hv.1, Result.andThen_ok]
    rw [storeCells_blk vs (i + 1) _ (cs.setIfInBounds (o + i) v) (putB_blk (blk_lt hb) _) (by simp; omega) hv.2, putB_putB]
    rfl

theorem st1_run {P : Program} {t : TypeId} {a v : Value} {w : World} {K : Value → World → Prop} (hl : lies P t = some none) (h : st1 a v w K) : ∃ w', (Instr.storeAt t a v).run P w = .ok () w' ∧ K undef w' := by
  unfold st1 at h
  split at h
  case h_2 => exact h.elim
  rename_i b o
  obtain ⟨cs, T, fr, hb, rfl, ho, hv, hK⟩ := blkK_spec h
  refine ⟨_, ?_, hK⟩
  have := storeCells_blk (P := P) (o := o) [v] 0 w cs hb (by simp; omega) (by simp [hv])
  simp only [Instr.storeAt, Instr.sureAddr, pure_bind, storeVar, Sem.run_bind, (lies_one hl w).2, Result.andThen_ok, cells_one hv, List.size_toArray, List.length_cons, List.length_nil, Nat.zero_add, ne_eq, not_true_eq_false, if_false, this]
  rfl

theorem stn_run {P : Program} {t : TypeId} {n : Nat} {a v : Value} {w : World} {K : Value → World → Prop} (hl : lies P t = some (some n)) (h : stn n a v w K) : ∃ w', (Instr.storeAt t a v).run P w = .ok () w' ∧ K undef w' := by
  unfold stn at h
  split at h
  case h_2 => exact h.elim
  rename_i b o vs
  obtain ⟨cs, T, fr, hb, rfl, hn, ho, hv, hK⟩ := blkK_spec h
  refine ⟨_, ?_, hK⟩
  have := storeCells_blk (P := P) (o := o) vs.toList 0 w cs hb (by simp; omega) hv
  simp only [Instr.storeAt, Instr.sureAddr, pure_bind, storeVar, Sem.run_bind, (lies_agg hl w).2, Result.andThen_ok, Value.cells, hn, ne_eq, not_true_eq_false, if_false, this, Nat.add_zero]

/-- Has this function a body to enter? -/
def enters (P : Program) (f : FuncId) : Bool := match P.funcs[f]? with
  | some fn => match fn.name == "runtime.NumGoroutine" with
    | true => false
    | false => fn.body.isSome
  | none => false

theorem enters_run {P : Program} {f : FuncId} (h : enters P f = true) (args : Array Value) (w : World) : (callFunc f args).run P w = .ok (.enter f args) w := by
  unfold enters at h
  split at h
  case h_2 => cases h
  rename_i fn hf
  split at h
  · cases h
  · rename_i hn
    have hb : fn.body.isNone = false := by cases hh : fn.body <;> simp_all
    unfold callFunc
    simp only [Sem.run_bind, run_program, Result.andThen_ok, hf, hn, hb, Bool.false_eq_true, if_false, Sem.run_pure]

/-- A move is no operation of its own; a load, a store, a call of a named function in their own words. -/
def stepK (P : Program) (op : Op) (ty : TypeId) (w : World) (K : Value → World → Prop) : Prop := match op with
  | .move x => K (bare x) w
  | .assign x => K (bare x) w
  | .load t a => match lies P t with
    | some none => ld1 (bare a) w K
    | some (some n) => ldn n (bare a) w K
    | none => False
  | .store t a v => match lies P t with
    | some none => st1 (bare a) (bare v) w K
    | some (some n) => stn n (bare a) (bare v) w K
    | none => False
  | .call ⟨.value (.func f), args, _⟩ => match enters P f with
    | true => callK P f (args.map bare) w K
    | false => False
  | op => opK P op ty w K

theorem opK_load {P : Program} {t ty : TypeId} {a : Operand} {w : World} {K : Value → World → Prop} (h : ∃ v, (Instr.loadAt t (bare a)).run P w = .ok v w ∧ K v w) : opK P (.load t a) ty w K := by
  obtain ⟨v, h1, h2⟩ := h
  show runK P K ((execOp bare _).run P w)
  simp only [execOp, Sem.run_bind, h1, Result.andThen_ok, Sem.run_pure]
  exact h2

theorem opK_store {P : Program} {t ty : TypeId} {a v : Operand} {w : World} {K : Value → World → Prop} (h : ∃ w', (Instr.storeAt t (bare a) (bare v)).run P w = .ok () w' ∧ K undef w') : opK P (.store t a v) ty w K := by
  obtain ⟨w', h1, h2⟩ := h
  show runK P K ((execOp bare _).run P w)
  simp only [execOp, Sem.run_bind, h1, Result.andThen_ok, Sem.run_pure]
  exact h2

theorem call_run {P : Program} {f : FuncId} (h : enters P f = true) (args : Array Operand) (ts : Array TypeId) (ty : TypeId) (w : World) :
    (execOp bare { dst := none, op := .call ⟨.value (.func f), args, ts⟩, type := ty, pos := "", after := #[], guard := none }).run P w = .ok (.enter f (args.map bare)) w := by
  have : bare (.func f) = .func (.func f) #[] #[] := rfl
  simp only [execOp, resolve, Deferred.ofValue, this, pure_bind, invoke]
  rw [show (#[] ++ args.map bare ++ #[] : Array Value) = args.map bare by simp]
  exact enters_run h _ w

theorem stepK_opK {P : Program} {op : Op} {ty : TypeId} {w : World} {K : Value → World → Prop} (h : stepK P op ty w K) : opK P op ty w K := by
  unfold stepK at h
  split at h
  · exact h
  · exact h
  · split at h
    · rename_i hl; exact opK_load (ld1_run hl h)
    · rename_i hl; exact opK_load (ldn_run hl h)
    · exact h.elim
  · split at h
    · rename_i hl; exact opK_store (st1_run hl h)
    · rename_i hl; exact opK_store (stn_run hl h)
    · exact h.elim
  · split at h
    case h_2 => exact h.elim
    rename_i he
    show runK P K _
    rw [call_run he]
    exact h
  · exact h

/-- A call that leaves the very world. -/
def stcK (P : Program) (f : FuncId) (args : Array Value) (w : World) (K : Value → Prop) : Prop :=
  ∃ v, Calls P f args w (fun e w'' => e = .returned v ∧ w'' = w) ∧ K v

def stepS (P : Program) (op : Op) (ty : TypeId) (w : World) (K : Value → Prop) : Prop := match op with
  | .move x => K (bare x)
  | .assign x => K (bare x)
  | .load t a => match lies P t with
    | some none => ld1 (bare a) w fun v _ => K v
    | some (some n) => ldn n (bare a) w fun v _ => K v
    | none => False
  | .call ⟨.value (.func f), args, _⟩ => match enters P f with
    | true => stcK P f (args.map bare) w K
    | false => False
  | op => stK P op ty w K

theorem stK_load {P : Program} {t ty : TypeId} {a : Operand} {w : World} {K : Value → Prop} (h : ∃ v, (Instr.loadAt t (bare a)).run P w = .ok v w ∧ K v) : stK P (.load t a) ty w K := by
  obtain ⟨v, h1, h2⟩ := h
  show runS P w K ((execOp bare _).run P w)
  simp only [execOp, Sem.run_bind, h1, Result.andThen_ok, Sem.run_pure]
  exact ⟨rfl, h2⟩

theorem stepS_stK {P : Program} {op : Op} {ty : TypeId} {w : World} {K : Value → Prop} (h : stepS P op ty w K) : stK P op ty w K := by
  unfold stepS at h
  split at h
  · exact ⟨rfl, h⟩
  · exact ⟨rfl, h⟩
  · split at h
    · rename_i hl; exact stK_load (ld1_run (K := fun v _ => K v) hl h)
    · rename_i hl; exact stK_load (ldn_run (K := fun v _ => K v) hl h)
    · exact h.elim
  · split at h
    case h_2 => exact h.elim
    rename_i he
    show runS P w K _
    rw [call_run he]
    exact ⟨rfl, h⟩
  · exact h

/-- An operation under a guard: where it is not wanted its temporary is undefined. -/
def gK (v : Value) (want : Bool) (w : World) (run : (Value → World → Prop) → Prop) (K : Value → World → Prop) : Prop := match v with
  | .bool b => if b = want then run K else K undef w
  | _ => K undef w

def gS (v : Value) (want : Bool) (run : (Value → Prop) → Prop) (K : Value → Prop) : Prop := match v with
  | .bool b => if b = want then run K else K undef
  | _ => K undef

def fits (nt : Nat) : Option Tmp → Bool
  | some d => Nat.blt d nt
  | none => true

/-- The value of the operation that a guard names. -/
noncomputable def guardVal (all : List Oper) (e : Env) (j : Nat) : Option Value := match all[j]? with
  | some o => match o.dst with
    | some d => Env.get e d
    | none => none
  | none => none

/-! ### A region -/
def Wops (P : Program) (nt : Nat) (all : List Oper) (K : Env → World → Prop) : List Oper → Env → World → Prop
  | [], e, w => K e w
  | o :: rest, e, w =>
    match fits nt o.dst && o.op.operands.toList.all e.known, subst e o.op with
    | true, some op =>
      match o.guard with
      | none => stepK P op o.type w fun v w' => Wops P nt all K rest (Env.put e o.dst v) w'
      | some (j, want) => match guardVal all e j with
        | some g => gK g want w (fun K' => stepK P op o.type w K') fun v w' => Wops P nt all K rest (Env.put e o.dst v) w'
        | none => False
    | _, _ => False

def Sops (P : Program) (nt : Nat) (all : List Oper) (w : World) (K : Env → Prop) : List Oper → Env → Prop
  | [], e => K e
  | o :: rest, e =>
    match fits nt o.dst && o.op.operands.toList.all e.known, subst e o.op with
    | true, some op =>
      match o.guard with
      | none => stepS P op o.type w fun v => Sops P nt all w K rest (Env.put e o.dst v)
      | some (j, want) => match guardVal all e j with
        | some g => gS g want (fun K' => stepS P op o.type w K') fun v => Sops P nt all w K rest (Env.put e o.dst v)
        | none => False
    | _, _ => False

theorem subst_noSelect {e : Env} {op op' : Op} (h : subst e op = some op') : ∀ cs b, op ≠ .select cs b := by
  intro cs b hc
  subst hc
  simp [subst] at h

theorem Agrees.put {e : Env} {a : Act} (h : Agrees e a) {d : Option Tmp} (hd : fits a.tmps.size d = true) (v : Value) : Agrees (Env.put e d v) (a.put d v) := by
  cases d with
  | none => exact h
  | some d =>
    have hd' : d < a.tmps.size := by simpa [fits] using hd
    intro t u hu
    simp only [Env.put, Env.get_cons] at hu
    simp only [Act.put, Array.getElem?_setIfInBounds]
    by_cases e1 : d = t
    · subst e1
      simp at hu
      subst hu
      simp [hd']
    · have : Nat.beq d t = false := beq_false e1
      rw [this] at hu
      rw [if_neg e1]
      exact h t u hu

theorem put_size (a : Act) (d : Option Tmp) (v : Value) : (a.put d v).tmps.size = a.tmps.size := by cases d <;> simp [Act.put]
theorem put_defers (a : Act) (d : Option Tmp) (v : Value) : (a.put d v).defers = a.defers := by cases d <;> rfl
theorem put_other (a : Act) {d : Option Tmp} {t : Nat} (h : d ≠ some t) (v : Value) : (a.put d v).tmps[t]? = a.tmps[t]? := by
  cases d with
  | none => rfl
  | some d => simp only [Act.put, Array.getElem?_setIfInBounds]; rw [if_neg (by rintro rfl; exact h rfl)]

theorem guardVal_spec {all : List Oper} {e : Env} {a : Act} (h : Agrees e a) {j : Nat} {b : Bool} (hg : guardVal all e j = some (.bool b)) : yielded all.toArray a.tmps j = some b := by
  unfold guardVal at hg
  unfold yielded
  split at hg
  · rename_i o ho
    split at hg
    · rename_i d hd
      have := h d _ hg
      simp [ho, hd, this]
    · cases hg
  · cases hg

theorem guardVal_none {all : List Oper} {e : Env} {a : Act} (h : Agrees e a) {j : Nat} {g : Value} (hg : guardVal all e j = some g) (hb : ∀ b, g = .bool b → False) : yielded all.toArray a.tmps j = none := by
  unfold guardVal at hg
  unfold yielded
  split at hg
  · rename_i o ho
    split at hg
    · rename_i d hd
      have := h d _ hg
      cases g with
      | bool b => exact (hb b rfl).elim
      | _ => simp [ho, hd, this]
    · cases hg
  · cases hg

/-- What a region writes. -/
def dsts (l : List Oper) : List Nat := l.filterMap (·.dst)

/-- What is told of the act behind a piece of code that writes 'ws'. -/
structure Beh (ws : List Nat) (a a' : Act) : Prop where
  size : a'.tmps.size = a.tmps.size
  defers : a'.defers = a.defers
  keep : ∀ t, t ∉ ws → a'.tmps[t]? = a.tmps[t]?

theorem Beh.refl (ws : List Nat) (a : Act) : Beh ws a a := ⟨rfl, rfl, fun _ _ => rfl⟩
theorem Beh.trans {ws : List Nat} {a b c : Act} (h : Beh ws a b) (k : Beh ws b c) : Beh ws a c :=
  ⟨k.size.trans h.size, k.defers.trans h.defers, fun t ht => (k.keep t ht).trans (h.keep t ht)⟩
theorem Beh.mono {ws ws' : List Nat} {a b : Act} (h : Beh ws a b) (hs : ∀ t, t ∈ ws → t ∈ ws') : Beh ws' a b :=
  ⟨h.size, h.defers, fun t ht => h.keep t (fun hh => ht (hs t hh))⟩
theorem Beh.put {ws : List Nat} {a : Act} {d : Option Tmp} (h : ∀ t, d = some t → t ∈ ws) (v : Value) : Beh ws a (a.put d v) :=
  ⟨put_size _ _ _, put_defers _ _ _, fun t ht => put_other a (fun hd => ht (h t hd)) v⟩

theorem opK_wp {P : Program} {o : Oper} {e : Env} {a : Act} {w : World} {op : Op} (hA : Agrees e a) (hs : subst e o.op = some op) (hk : o.op.operands.toList.all e.known = true)
    {K : Value → World → Prop} {next : Act → World → Prop} {Q : Exit → Act → World → Prop} (h : opK P op o.type w K) (hK : ∀ v w', K v w' → next (a.put o.dst v) w') : o.wp P a w next Q := by
  unfold opK at h
  split at h
  case h_2 => exact h.elim
  rename_i hok
  unfold Oper.wp
  rw [execOp_subst hA o hs (fun x hx => by rw [List.all_eq_true] at hk; exact hk x (by simpa using hx)) hok]
  generalize (execOp bare _).run P w = r at h
  cases r with
  | halt x w' => exact h.elim
  | ok n w' =>
    cases n <;> try exact h.elim
    case value v => exact hK v w' h
    case skip => exact hK undef w' h
    case enter f args =>
      refine Calls.mono h ?_
      rintro en w'' ⟨v, rfl, hv⟩
      exact hK v w'' hv

theorem Wops_sound {P : Program} (all : List Oper) (K : Env → World → Prop) (ws : List Nat) (a0 : Act) (Q : Exit → Act → World → Prop)
    (hQ : ∀ e' a' w', Agrees e' a' → Beh ws a0 a' → K e' w' → Q .normal a' w') :
    ∀ (l : List Oper), (∀ t ∈ dsts l, t ∈ ws) → ∀ (e : Env) (a : Act) (w : World), Agrees e a → Beh ws a0 a → Wops P a0.tmps.size all K l e w → wpList P all.toArray Q l a w
  | [], _, e, a, w, hA, hB, h => hQ e a w hA hB h
  | o :: rest, hw, e, a, w, hA, hB, h => by
    have hw' : ∀ t ∈ dsts rest, t ∈ ws := fun t ht => hw t (by
      unfold dsts at ht ⊢
      rw [List.filterMap_cons]
      split
      · exact ht
      · exact List.mem_cons_of_mem _ ht)
    have hd : ∀ t, o.dst = some t → t ∈ ws := fun t ht => hw t (by simp [dsts, ht])
    have ih := Wops_sound (P := P) all K ws a0 Q hQ rest hw'
    simp only [Wops] at h
    split at h
    case h_2 => exact h.elim
    rename_i op hfk hs
    simp only [Bool.and_eq_true] at hfk
    obtain ⟨hf, hk⟩ := hfk
    have hf' : fits a.tmps.size o.dst = true := by rw [hB.size]; exact hf
    have hnext : ∀ v w', Wops P a0.tmps.size all K rest (Env.put e o.dst v) w' → wpList P all.toArray Q rest (a.put o.dst v) w' :=
      fun v w' hv => ih _ _ _ (hA.put hf' v) (hB.trans (Beh.put hd v)) hv
    unfold wpList
    split at h
    · rename_i hg
      rw [if_pos (by simp [Region.wanted, hg])]
      exact .inl (opK_wp hA hs hk (stepK_opK h) hnext)
    · rename_i j want hg
      split at h
      case h_2 => exact h.elim
      rename_i g hgv
      unfold gK at h
      split at h
      case h_2 =>
        rename_i hnb
        have hy := guardVal_none hA hgv hnb
        rw [if_neg (by simp [Region.wanted, hg, hy])]
        exact hnext _ _ h
      rename_i b
      have hy := guardVal_spec hA hgv
      by_cases hb : b = want
      · subst hb
        rw [if_pos rfl] at h
        rw [if_pos (by simp [Region.wanted, hg, hy])]
        exact .inl (opK_wp hA hs hk (stepK_opK h) hnext)
      · rw [if_neg hb] at h
        rw [if_neg (by simp [Region.wanted, hg, hy, hb])]
        exact hnext _ _ h

theorem Sops_sound {P : Program} (all : List Oper) (w : World) (K : Env → Prop) (ws : List Nat) (a0 : Act) (Q : Act → Prop)
    (hQ : ∀ e' a', Agrees e' a' → Beh ws a0 a' → K e' → Q a') :
    ∀ (l : List Oper), (∀ t ∈ dsts l, t ∈ ws) → ∀ (e : Env) (a : Act), Agrees e a → Beh ws a0 a → Sops P a0.tmps.size all w K l e → wpStill P all.toArray w Q l a
  | [], _, e, a, hA, hB, h => hQ e a hA hB h
  | o :: rest, hw, e, a, hA, hB, h => by
    have hw' : ∀ t ∈ dsts rest, t ∈ ws := fun t ht => hw t (by
      unfold dsts at ht ⊢
      rw [List.filterMap_cons]
      split
      · exact ht
      · exact List.mem_cons_of_mem _ ht)
    have hd : ∀ t, o.dst = some t → t ∈ ws := fun t ht => hw t (by simp [dsts, ht])
    have ih := Sops_sound (P := P) all w K ws a0 Q hQ rest hw'
    simp only [Sops] at h
    split at h
    case h_2 => exact h.elim
    rename_i op hfk hs
    simp only [Bool.and_eq_true] at hfk
    obtain ⟨hf, hk⟩ := hfk
    have hf' : fits a.tmps.size o.dst = true := by rw [hB.size]; exact hf
    have hnext : ∀ v, Sops P a0.tmps.size all w K rest (Env.put e o.dst v) → wpStill P all.toArray w Q rest (a.put o.dst v) :=
      fun v hv => ih _ _ (hA.put hf' v) (hB.trans (Beh.put hd v)) hv
    have hstill : stK P op o.type w (fun v => Sops P a0.tmps.size all w K rest (Env.put e o.dst v)) → o.still P a w (wpStill P all.toArray w Q rest) := by
      intro h
      unfold stK at h
      split at h
      case h_2 => exact h.elim
      rename_i hok
      unfold Oper.still
      rw [execOp_subst hA o hs (fun x hx => by rw [List.all_eq_true] at hk; exact hk x (by simpa using hx)) hok]
      generalize (execOp bare _).run P w = r at h
      cases r with
      | halt x w' => exact h.elim
      | ok n w' =>
        cases n <;> try exact h.elim
        case value v => exact ⟨h.1, hnext v h.2⟩
        case skip => exact ⟨h.1, hnext _ h.2⟩
        case enter f args =>
          obtain ⟨h1, v, h2, h3⟩ := h
          exact ⟨h1, v, h2, hnext v h3⟩
    unfold wpStill
    split at h
    · rename_i hg
      rw [if_pos (by simp [Region.wanted, hg])]
      exact hstill (stepS_stK h)
    · rename_i j want hg
      split at h
      case h_2 => exact h.elim
      rename_i g hgv
      unfold gS at h
      split at h
      case h_2 =>
        rename_i hnb
        have hy := guardVal_none hA hgv hnb
        rw [if_neg (by simp [Region.wanted, hg, hy])]
        exact hnext _ h
      rename_i b
      have hy := guardVal_spec hA hgv
      by_cases hb : b = want
      · subst hb
        rw [if_pos rfl] at h
        rw [if_pos (by simp [Region.wanted, hg, hy])]
        exact hstill (stepS_stK h)
      · rw [if_neg hb] at h
        rw [if_neg (by simp [Region.wanted, hg, hy, hb])]
        exact hnext _ h

/-! ### A region whose order is drawn: still pieces between operations that each stand behind all ahead of them and ahead of all behind them -/
def fillTo (N k : Nat) : Array Bool := (List.replicate k true ++ List.replicate (N - k) false).toArray

/-- Everything behind m waits for something from m on. -/
def lateB (ops : Array Oper) (m : Nat) : Bool := (List.range ops.size).all fun t => Nat.ble t m || (List.range t).any fun j => Nat.ble m j && Region.waitsFor .any ops t j
/-- Nothing waits for what stands behind it, no guard names such a one. -/
def lowB (ops : Array Oper) : Bool := (List.range ops.size).all fun i => match ops[i]? with
  | some o => (o.after.all fun e => !Region.binds .any e || Nat.blt e.on i) && (match o.guard with
    | some (g, _) => Nat.blt g i
    | none => true)
  | none => true

def barsB (ops : Array Oper) : List Nat → Nat → Bool
  | [], k => Nat.ble k ops.size && Region.lexFrom .any ops (ops.size - k) k (fillTo ops.size k)
  | m :: ms, k => Nat.ble k m && Nat.blt m ops.size && Region.sinkB .any ops m && lateB ops m && Region.noSelect (ops.toList.take m).toArray &&
      Region.lexFrom .any (ops.toList.take m).toArray (m - k) k (fillTo ops.size k) && barsB ops ms (m + 1)

def Mops (P : Program) (nt : Nat) (all : List Oper) (K : Env → World → Prop) : List Nat → Nat → Env → World → Prop
  | [], k, e, w => Sops P nt all w (fun e' => K e' w) (all.drop k) e
  | m :: ms, k, e, w => Sops P nt (all.take m) w (fun e' => Wops P nt all (fun e2 w2 => Mops P nt all K ms (m + 1) e2 w2) ((all.drop m).take 1) e' w) ((all.take m).drop k) e

theorem wpAny_more {P : Program} {md : Region.Mode} {ops : Array Oper} {Q : Exit → Act → World → Prop} : ∀ (f : Nat) {listed : Array Bool} {a : Act} {w : World}, wpAny P md ops Q f listed a w → wpAny P md ops Q (f + 1) listed a w
  | 0, listed, a, w, h => ⟨fun _ => h.2, fun i hi => by rw [h.1] at hi; cases hi⟩
  | f + 1, listed, a, w, h => ⟨h.1, fun i hi => wpOp_mono (fun a' w' h' => wpAny_more f h') (h.2 i hi)⟩

theorem wpAny_le {P : Program} {md : Region.Mode} {ops : Array Oper} {Q : Exit → Act → World → Prop} {listed : Array Bool} {a : Act} {w : World} {f : Nat} : ∀ {g : Nat}, f ≤ g → wpAny P md ops Q f listed a w → wpAny P md ops Q g listed a w
  | 0, h, hh => by obtain rfl : f = 0 := by omega
                   exact hh
  | g + 1, h, hh => by
    rcases Nat.lt_or_ge g f with h' | h'
    · obtain rfl : f = g + 1 := by omega
      exact hh
    · exact wpAny_more g (wpAny_le h' hh)

theorem fillTo_size {N k : Nat} (h : k ≤ N) : (fillTo N k).size = N := by simp [fillTo]; omega
theorem fillTo_get {N k i : Nat} (h : i < N) (_hk : k ≤ N) (d : Bool) : (fillTo N k).getD i d = decide (i < k) := by
  have : (fillTo N k)[i]? = some (decide (i < k)) := by
    simp only [fillTo, List.getElem?_toArray, List.getElem?_append, List.length_replicate, List.getElem?_replicate]
    by_cases h1 : i < k
    · simp [h1]
    · simp [h1]; omega
  simp [Array.getD_eq_getD_getElem?, this]
theorem eq_fillTo {N k : Nat} {l : Array Bool} (hk : k ≤ N) (hs : l.size = N) (h1 : ∀ i, i < k → l.getD i false = true) (h2 : ∀ i, k ≤ i → i < N → l.getD i true = false) : l = fillTo N k := by
  apply Array.ext
  · rw [hs, fillTo_size hk]
  intro i hi hi2
  have e2 : (fillTo N k)[i] = decide (i < k) := by
    have := fillTo_get (i := i) (by omega) hk false
    simpa [Array.getD, hi2] using this
  rw [e2]
  by_cases h : i < k
  · have := h1 i h
    simp [Array.getD, hi] at this
    simp [h, this]
  · have := h2 i (by omega) (by omega)
    simp [Array.getD, hi] at this
    simp [h, this]
theorem fillTo_set {N k : Nat} (h : k < N) : (fillTo N k).setIfInBounds k true = fillTo N (k + 1) := by
  refine eq_fillTo (by omega) (by simp [fillTo_size (Nat.le_of_lt h)]) (fun i hi => ?_) (fun i hi hi2 => ?_)
  · by_cases e : k = i
    · subst e
      simp [fillTo_size (Nat.le_of_lt h), h]
    · rw [getD_set_ne false e, fillTo_get (by omega) (by omega)]; simp; omega
  · rw [getD_set_ne true (by omega), fillTo_get hi2 (by omega)]; simp; omega

theorem fillTo_zero (N : Nat) : fillTo N 0 = Array.replicate N false := by
  simp [fillTo]

section bars
variable {P : Program} {ops : Array Oper} {w : World}

theorem lowB_spec (h : lowB ops = true) {i : Nat} {o : Oper} (ho : ops[i]? = some o) : (∀ e ∈ o.after, Region.binds .any e = true → e.on < i) ∧ ∀ g b, o.guard = some (g, b) → g < i := by
  have hi : i < ops.size := (Array.getElem?_eq_some_iff.1 ho).1
  have := List.all_eq_true.1 h i (List.mem_range.2 hi)
  simp only [ho, Bool.and_eq_true] at this
  refine ⟨fun e he hb => ?_, fun g b hg => ?_⟩
  · have h1 := Array.all_eq_true'.1 this.1 e he
    rw [hb] at h1
    exact Nat.le_of_ble_eq_true (by simpa [Nat.blt] using h1)
  · rw [hg] at this
    exact Nat.le_of_ble_eq_true (by simpa [Nat.blt] using this.2)

theorem none_late {m : Nat} {listed : Array Bool} (hm : m < ops.size) (hs : Region.sinkB .any ops m = true) (hl : lateB ops m = true) (inv : HeadInv .any ops m listed) {i : Nat} (hi : i < m) (hu : listed.getD i true = false) :
    ∀ t, m ≤ t → t ∉ Region.ready .any ops listed := by
  intro t ht hr
  obtain ⟨_, ot, hot, hall⟩ := mem_ready.1 hr
  have htl : t < ops.size := (Array.getElem?_eq_some_iff.1 hot).1
  rcases Nat.lt_or_ge m t with hmt | hmt
  · have h1 := List.all_eq_true.1 hl t (List.mem_range.2 htl)
    rw [show Nat.ble t m = false by rw [Bool.eq_false_iff]; intro hh; have := Nat.le_of_ble_eq_true hh; omega, Bool.false_or] at h1
    obtain ⟨j, hj, hj2⟩ := List.any_eq_true.1 h1
    simp only [Bool.and_eq_true] at hj2
    have hmj := Nat.le_of_ble_eq_true hj2.1
    have hjt := List.mem_range.1 hj
    obtain ⟨o', ho', e, he, hb, hon⟩ := Region.waitsFor_spec hj2.2
    obtain rfl : o' = ot := Option.some.inj (ho'.symm.trans hot)
    have h2 := hall e he hb
    have h3 := inv.tail j hmj (by omega)
    rw [hon, getD_both h3] at h2
    cases h2
  · obtain rfl : t = m := by omega
    have all : ∀ d i, t - i = d → i < t → listed.getD i false = true := by
      intro d
      induction d using Nat.strongRecOn with
      | _ d ih =>
        intro i hd hi
        have h1 := List.all_eq_true.1 hs i (List.mem_range.2 hi)
        obtain ⟨j, hj, hj2⟩ := List.any_eq_true.1 h1
        simp only [Bool.and_eq_true, decide_eq_true_eq] at hj2
        obtain ⟨oj, hoj, e, he, hb, hon⟩ := Region.waitsFor_spec hj2.2
        have hjt := List.mem_range.1 hj
        by_cases hjt' : j = t
        · subst hjt'
          obtain rfl : oj = ot := Option.some.inj (hoj.symm.trans hot)
          rw [← hon]; exact hall e he hb
        · rw [← hon]
          exact inv.closed j oj hoj (ih (t - j) (by omega) j rfl (by omega)) e he hb
    have := all _ i rfl hi
    rw [getD_both hu] at this
    cases this

theorem take_get {m i : Nat} (hm : i < m) : (ops.toList.take m).toArray[i]? = ops[i]? := by simp [hm]

theorem ready_take {m : Nat} {listed : Array Bool} (hm : m ≤ ops.size) {i : Nat} : i ∈ Region.ready .any (ops.toList.take m).toArray listed ↔ i < m ∧ i ∈ Region.ready .any ops listed := by
  rw [mem_ready, mem_ready]
  constructor
  · rintro ⟨h1, o, ho, h2⟩
    have hi : i < m := by
      have := (Array.getElem?_eq_some_iff.1 ho).1
      simp at this
      omega
    rw [take_get hi] at ho
    exact ⟨hi, h1, o, ho, h2⟩
  · rintro ⟨hi, h1, o, ho, h2⟩
    exact ⟨h1, o, by rw [take_get hi]; exact ho, h2⟩

theorem wanted_take {m i : Nat} {o : Oper} (hlow : lowB ops = true) (hi : i < m) (ho : ops[i]? = some o) (ts : Array Value) : Region.wanted o (yielded (ops.toList.take m).toArray ts) = Region.wanted o (yielded ops ts) := by
  unfold Region.wanted
  cases hg : o.guard with
  | none => rfl
  | some p =>
    obtain ⟨g, b⟩ := p
    have := (lowB_spec hlow ho).2 g b hg
    simp only [yielded, take_get (ops := ops) (show g < m by omega)]

theorem stOp_take {m i : Nat} (hlow : lowB ops = true) (hi : i < m) {K : Act → Prop} {a : Act} (h : stOp P (ops.toList.take m).toArray w i K a) : stOp P ops w i K a := by
  unfold stOp at h ⊢
  rw [take_get hi] at h
  cases ho : ops[i]? with
  | none => rw [ho] at h; exact h
  | some o =>
    rw [ho] at h
    simp only at h ⊢
    rw [wanted_take hlow hi ho] at h
    exact h

/-- All ahead of m is listed where none of it is ready. -/
theorem all_listed {m : Nat} {listed : Array Bool} (hlow : lowB ops = true) (hm : m ≤ ops.size) (inv : HeadInv .any ops m listed) (hr : Region.ready .any (ops.toList.take m).toArray listed = []) : listed = fillTo ops.size m := by
  refine eq_fillTo hm inv.size ?_ inv.tail
  intro i
  induction i using Nat.strongRecOn with
  | _ i ih =>
    intro hi
    cases hl : listed.getD i false with
    | true => rfl
    | false =>
      have hi' : i < ops.size := by omega
      have ho : ops[i]? = some ops[i] := by simp [hi']
      have : i ∈ Region.ready .any (ops.toList.take m).toArray listed := by
        rw [ready_take hm]
        refine ⟨hi, mem_ready.2 ⟨getD_in (by rw [inv.size]; exact hi') hl, _, ho, fun e he hb => ?_⟩⟩
        have := (lowB_spec hlow ho).1 e he hb
        exact ih _ this (by omega)
      rw [hr] at this
      cases this

theorem seg_any {m g : Nat} {Q : Exit → Act → World → Prop} {L : Act → Prop} (hlow : lowB ops = true) (hm : m < ops.size) (hs : Region.sinkB .any ops m = true) (hl : lateB ops m = true)
    (hL : ∀ a, L a → wpAny P .any ops Q g (fillTo ops.size m) a w) :
    ∀ f listed a, HeadInv .any ops m listed → wpAnyS P .any (ops.toList.take m).toArray w L f listed a → wpAny P .any ops Q (f + g) listed a w := by
  intro f
  induction f with
  | zero =>
    intro listed a inv h
    rw [all_listed hlow (Nat.le_of_lt hm) inv h.1, Nat.zero_add]
    exact hL a h.2
  | succ f ih =>
    intro listed a inv h
    cases hr : Region.ready .any (ops.toList.take m).toArray listed with
    | nil =>
      rw [all_listed hlow (Nat.le_of_lt hm) inv hr]
      exact wpAny_le (by omega) (hL a (h.1 hr))
    | cons i0 rest =>
      have hi0 : i0 ∈ Region.ready .any (ops.toList.take m).toArray listed := by rw [hr]; simp
      have h00 := (ready_take (Nat.le_of_lt hm)).1 hi0
      have hlate := none_late hm hs hl inv h00.1 (mem_ready.1 h00.2).1
      rw [show f + 1 + g = (f + g) + 1 by omega]
      refine ⟨fun h0 => (by rw [h0] at h00; cases h00.2), fun i hi => ?_⟩
      have him : i < m := by
        rcases Nat.lt_or_ge i m with h' | h'
        · exact h'
        · exact absurd hi (hlate i h')
      refine wpOp_of_stOp (fun a' h' => ih _ _ (inv.set hi him) h') (stOp_take hlow him (h.2 i ((ready_take (Nat.le_of_lt hm)).2 ⟨him, hi⟩)))

theorem inv_fill (hlow : lowB ops = true) {k m : Nat} (hk : k ≤ m) (hm : m ≤ ops.size) : HeadInv .any ops m (fillTo ops.size k) where
  size := fillTo_size (by omega)
  closed := fun j oj hj hl e he hb => by
    have hjs : j < ops.size := (Array.getElem?_eq_some_iff.1 hj).1
    rw [fillTo_get hjs (by omega)] at hl
    have h1 := (lowB_spec hlow hj).1 e he hb
    rw [fillTo_get (by omega) (by omega)]
    simp at hl ⊢; omega
  tail := fun t ht hts => by
    rw [fillTo_get hts (by omega)]; simp; omega

/-- The one that stands between. -/
theorem bar_any {m g : Nat} {Q : Exit → Act → World → Prop} {a : Act} (hlow : lowB ops = true) (hm : m < ops.size) (hl : lateB ops m = true)
    (h : wpOp P ops Q m (wpAny P .any ops Q g (fillTo ops.size (m + 1))) a w) : wpAny P .any ops Q (g + 1) (fillTo ops.size m) a w := by
  have ho : ops[m]? = some ops[m] := by simp [hm]
  have hr : m ∈ Region.ready .any ops (fillTo ops.size m) := by
    refine mem_ready.2 ⟨?_, _, ho, fun e he hb => ?_⟩
    · rw [fillTo_get hm (by omega)]; simp
    · have := (lowB_spec hlow ho).1 e he hb
      rw [fillTo_get (by omega) (by omega)]; simp; exact this
  refine ⟨fun h0 => (by rw [h0] at hr; cases hr), fun i hi => ?_⟩
  obtain ⟨h1, oi, hoi, hall⟩ := mem_ready.1 hi
  have his : i < ops.size := (Array.getElem?_eq_some_iff.1 hoi).1
  rw [fillTo_get his (by omega)] at h1
  have him : m ≤ i := by simp at h1; exact h1
  by_cases e : i = m
  · subst e
    rw [fillTo_set hm]
    exact h
  · have h3 := List.all_eq_true.1 hl i (List.mem_range.2 his)
    rw [show Nat.ble i m = false by rw [Bool.eq_false_iff]; intro hh; have := Nat.le_of_ble_eq_true hh; omega, Bool.false_or] at h3
    obtain ⟨j, hj, hj2⟩ := List.any_eq_true.1 h3
    simp only [Bool.and_eq_true] at hj2
    have hmj := Nat.le_of_ble_eq_true hj2.1
    have hji := List.mem_range.1 hj
    obtain ⟨o', ho', e', he', hb, hon⟩ := Region.waitsFor_spec hj2.2
    obtain rfl : o' = oi := Option.some.inj (ho'.symm.trans hoi)
    have h4 := hall e' he' hb
    rw [hon, fillTo_get (by omega) (by omega)] at h4
    simp at h4
    omega

/-- One operation by itself. -/
theorem Wop_one {all : List Oper} {K : Env → World → Prop} {nt : Nat} {o : Oper} {e : Env} {a : Act} {w : World} {ops : Array Oper} {i : Nat} {K' : Act → World → Prop} {Q : Exit → Act → World → Prop} (hall : all.toArray = ops) (hi : ops[i]? = some o) (hnt : a.tmps.size = nt)
    (hA : Agrees e a) (h : Wops P nt all K [o] e w) (hK : ∀ v e' w', Agrees e' (a.put o.dst v) → K e' w' → K' (a.put o.dst v) w') : wpOp P ops Q i K' a w := by
  subst hnt
  simp only [Wops] at h
  split at h
  case h_2 => exact h.elim
  rename_i op hfk hs
  simp only [Bool.and_eq_true] at hfk
  obtain ⟨hf, hk⟩ := hfk
  unfold wpOp
  rw [hi]
  simp only
  subst hall
  split at h
  · rename_i hg
    rw [if_pos (by simp [Region.wanted, hg])]
    exact .inl (opK_wp hA hs hk (stepK_opK h) fun v w' hv => hK v _ w' (hA.put hf v) hv)
  · rename_i j want hg
    split at h
    case h_2 => exact h.elim
    rename_i g hgv
    unfold gK at h
    split at h
    case h_2 =>
      rename_i hnb
      have hy := guardVal_none hA hgv hnb
      rw [if_neg (by simp [Region.wanted, hg, hy])]
      exact hK _ _ _ (hA.put hf _) h
    rename_i b
    have hy := guardVal_spec hA hgv
    by_cases hb : b = want
    · subst hb
      rw [if_pos rfl] at h
      rw [if_pos (by simp [Region.wanted, hg, hy])]
      exact .inl (opK_wp hA hs hk (stepK_opK h) fun v w' hv => hK v _ w' (hA.put hf v) hv)
    · rw [if_neg hb] at h
      rw [if_neg (by simp [Region.wanted, hg, hy, hb])]
      exact hK _ _ _ (hA.put hf _) h

theorem Mops_sound (all : List Oper) (K : Env → World → Prop) (a0 : Act) (Q : Exit → Act → World → Prop) (hall : all.toArray = ops) (hsel : Region.noSelect ops = true) (hlow : lowB ops = true)
    (hQ : ∀ e' a' w', Agrees e' a' → Beh (dsts all) a0 a' → K e' w' → Q .normal a' w') :
    ∀ (ms : List Nat) (k : Nat) (e : Env) (a : Act) (w : World), Agrees e a → Beh (dsts all) a0 a → barsB ops ms k = true → Mops P a0.tmps.size all K ms k e w → wpAny P .any ops Q (ops.size - k) (fillTo ops.size k) a w
  | [], k, e, a, w, hA, hB, hb, h => by
    simp only [barsB, Bool.and_eq_true] at hb
    have hk := Nat.le_of_ble_eq_true hb.1
    have hsz : all.length = ops.size := by rw [← hall]; simp
    have hst := Sops_sound (P := P) all w (fun e' => K e' w) (dsts all) a0 (fun a' => Q .normal a' w) (fun e' a' hA' hB' hk' => hQ e' a' w hA' hB' hk') (all.drop k)
      (fun t ht => by unfold dsts at ht ⊢; exact ((List.drop_sublist k all).filterMap _).subset ht) e a hA hB h
    refine wpAny_of_still (Q := fun a' => Q .normal a' w) (fun _ h => h) _ _ _ ?_
    have hlen : (all.drop k).length = ops.size - k := by rw [List.length_drop, hsz]
    have := wpAnyS_lex (md := .any) (ops := ops) (P := P) (w := w) (Q := fun a' => Q .normal a' w) hsel (all.drop k) k (fillTo ops.size k) a (fun j => by rw [← hall]; simp [List.getElem?_drop]) (by rw [hlen]; exact hb.2) (by rw [hall] at hst; exact hst)
    rw [hlen] at this
    exact this
  | m :: ms, k, e, a, w, hA, hB, hb, h => by
    simp only [barsB, Bool.and_eq_true] at hb
    obtain ⟨⟨⟨⟨⟨⟨hkm, hm⟩, hs⟩, hl⟩, hsel2⟩, hlex⟩, hrest⟩ := hb
    have hkm := Nat.le_of_ble_eq_true hkm
    have hm : m < ops.size := Nat.le_of_ble_eq_true (by simpa [Nat.blt] using hm)
    have hsz : all.length = ops.size := by rw [← hall]; simp
    have htl : ops.toList = all := by rw [← hall]
    have hget : all[m]? = some ops[m] := by rw [← htl]; simp [hm]
    have hone : (all.drop m).take 1 = [ops[m]] := by
      have hm' : m < all.length := by omega
      rw [List.drop_eq_getElem_cons hm']
      simp only [List.take_succ_cons, List.take_zero, List.cons.injEq, and_true]
      have : all[m]? = some all[m] := by simp [hm']
      rw [this] at hget
      simpa using hget
    simp only [Mops, hone] at h
    have hst := Sops_sound (P := P) (all.take m) w _ (dsts all) a0
      (fun a' => wpAny P .any ops Q (ops.size - (m + 1) + 1) (fillTo ops.size m) a' w) (fun e' a' hA' hB' hk' => ?_) ((all.take m).drop k)
      (fun t ht => by unfold dsts at ht ⊢; exact (((List.drop_sublist k _).trans (List.take_sublist m all)).filterMap _).subset ht) e a hA hB h
    · have hlen : ((all.take m).drop k).length = m - k := by rw [List.length_drop, List.length_take, hsz]; omega
      have h2 := wpAnyS_lex (md := .any) (ops := (ops.toList.take m).toArray) (P := P) (w := w) hsel2 ((all.take m).drop k) k (fillTo ops.size k) a
        (fun j => by rw [htl]; simp [List.getElem?_drop]) (by rw [hlen]; exact hlex) (by rw [htl]; exact hst)
      rw [hlen] at h2
      refine wpAny_le ?_ (seg_any hlow hm hs hl (fun a' h' => h') _ _ _ (inv_fill hlow hkm (Nat.le_of_lt hm)) h2)
      omega
    · refine bar_any hlow hm hl ?_
      refine Wop_one (all := all) hall (by simp [hm]) hB'.size hA' hk' ?_
      intro v e2 w2 hA2 hM
      refine Mops_sound all K a0 Q hall hsel hlow hQ ms (m + 1) e2 _ w2 hA2 (hB'.trans (Beh.put (fun t ht => ?_) v)) hrest hM
      unfold dsts
      exact List.mem_filterMap.2 ⟨ops[m], List.mem_of_getElem? hget, ht⟩
end bars

/-! ### A region whose order is drawn: a tree of the orders its effects may come in; a still operation is held against each world in which it may come -/
inductive Tr where
  | fin
  | seg (s : List Nat) (t : Tr)
  | eff (m : Nat) (d : List Nat) (t : Tr)
  | alt (a b : Tr)

structure Pend where
  i : Nat
  op : Op
  ty : TypeId
  g : Option (Value × Bool)
  v : Value

def elemB (t : Nat) : List Nat → Bool
  | [] => false
  | s :: l => match Nat.beq s t with
    | true => true
    | false => elemB t l

theorem elemB_spec (t : Nat) : ∀ (l : List Nat), elemB t l = true ↔ t ∈ l
  | [] => by simp [elemB]
  | s :: l => by
    unfold elemB
    by_cases h : s = t
    · subst h; simp
    · have : Nat.beq s t = false := beq_false h
      rw [this]
      simp only [elemB_spec t l, List.mem_cons]
      constructor
      · exact .inr
      · rintro (rfl | h')
        · exact absurd rfl h
        · exact h'

/-- What is known of some. -/
def Env.keep (ks : List Nat) : List (Nat × Value) → List (Nat × Value)
  | [] => []
  | (t, v) :: e => match elemB t ks with
    | true => (t, v) :: Env.keep ks e
    | false => Env.keep ks e

/-- Does a still operation yield the same in this world? -/
def again (P : Program) (w : World) (op : Op) (ty : TypeId) (g : Option (Value × Bool)) (v : Value) : Prop := match g with
  | none => stepS P op ty w fun v' => v' = v
  | some (x, want) => gS x want (fun K => stepS P op ty w K) fun v' => v' = v

def againAll (P : Program) (w : World) : List Pend → Prop → Prop
  | [], R => R
  | p :: ps, R => again P w p.op p.ty p.g p.v ∧ againAll P w ps R

def moves : Op → Bool
  | .move _ => true
  | .assign _ => true
  | _ => false

def addP (i : Nat) (op : Op) (ty : TypeId) (g : Option (Value × Bool)) (v : Value) (ps : List Pend) : List Pend := match moves op with
  | true => ps
  | false => ⟨i, op, ty, g, v⟩ :: ps

def dropP (d : List Nat) : List Pend → List Pend
  | [] => []
  | p :: ps => match elemB p.i d with
    | true => dropP d ps
    | false => p :: dropP d ps

def Tsegs (P : Program) (nt : Nat) (all : List Oper) (w : World) (K : List Pend → Env → Prop) : List Nat → List Pend → Env → Prop
  | [], ps, e => K ps e
  | i :: s, ps, e => match all[i]? with
    | some o => match fits nt o.dst && o.op.operands.toList.all e.known, subst e o.op with
      | true, some op => match o.guard with
        | none => stepS P op o.type w fun v => Tsegs P nt all w K s (addP i op o.type none v ps) (Env.put e o.dst v)
        | some (j, want) => match guardVal all e j with
          | some g => gS g want (fun K' => stepS P op o.type w K') fun v => Tsegs P nt all w K s (addP i op o.type (some (g, want)) v ps) (Env.put e o.dst v)
          | none => False
      | _, _ => False
    | none => False

def Tops (P : Program) (nt : Nat) (all : List Oper) (K : Env → World → Prop) : Tr → List Pend → Env → World → Prop
  | .fin, _, e, w => K e w
  | .seg s t, ps, e, w => Tsegs P nt all w (fun ps' e' => Tops P nt all K t ps' e' w) s ps e
  | .eff m d t, ps, e, w => match all[m]? with
    | some o => match fits nt o.dst && o.op.operands.toList.all e.known, subst e o.op with
      | true, some op => match o.guard with
        | none => stepK P op o.type w fun v w' => againAll P w' (dropP d ps) (Tops P nt all K t (dropP d ps) (Env.put e o.dst v) w')
        | some (j, want) => match guardVal all e j with
          | some g => gK g want w (fun K' => stepK P op o.type w K') fun v w' => againAll P w' (dropP d ps) (Tops P nt all K t (dropP d ps) (Env.put e o.dst v) w')
          | none => False
      | _, _ => False
    | none => False
  | .alt a b, ps, e, w => Tops P nt all K a ps e w ∧ Tops P nt all K b ps e w

/-! the check -/
def ancB (ops : Array Oper) : Nat → Nat → Nat → Bool
  | 0, _, _ => false
  | f + 1, j, i => Region.waitsFor .any ops j i || (List.range j).any fun k => Region.waitsFor .any ops j k && ancB ops f k i
def topB (ops : Array Oper) (S : List Nat) (i : Nat) : Bool := match ops[i]? with
  | some o => !elemB i S && o.after.all fun e => !Region.binds .any e || elemB e.on S
  | none => false
def heads : Tr → List Nat
  | .eff m _ _ => [m]
  | .alt a b => heads a ++ heads b
  | _ => []
def fullB (ops : Array Oper) (S hs : List Nat) : Bool := (List.range ops.size).all fun i => elemB i S || elemB i hs || match ops[i]? with
  | some o => o.after.any fun e => Region.binds .any e && !elemB e.on S
  | none => true
def segS (ops : Array Oper) (k : List Nat → Bool) : List Nat → List Nat → Bool
  | [], S => k S
  | i :: s, S => topB ops S i && segS ops k s (i :: S)
def isSeg : Tr → Bool
  | .seg _ _ => true
  | _ => false
def treeS (ops : Array Oper) : Tr → List Nat → Bool
  | .fin, S => (List.range ops.size).all fun i => elemB i S
  | .seg s t, S => segS ops (fun S' => !isSeg t && fullB ops S' (heads t) && treeS ops t S') s S
  | .eff m d t, S => topB ops S m && isSeg t && (d.all fun i => ancB ops 4 m i) && treeS ops t (m :: S)
  | .alt a b, S => !isSeg a && treeS ops a S && treeS ops b S
def pairB (ops : Array Oper) : Bool := (List.range ops.size).all fun i => (List.range i).all fun j => match ops[i]?, ops[j]? with
  | some x, some y => (Region.waitsFor .any ops i j || x.apart ops y) && (match x.dst with
    | some d => y.dst != some d
    | none => true)
  | _, _ => true
def treeB (ops : Array Oper) (t : Tr) : Bool := Region.noSelect ops && lowB ops && pairB ops && isSeg t && treeS ops t []

section tree
variable {P : Program} {ops : Array Oper}

theorem waits_low (hlow : lowB ops = true) {j i : Nat} (h : Region.waitsFor .any ops j i = true) : i < j := by
  obtain ⟨oj, ho, e, he, hb, hon⟩ := Region.waitsFor_spec h
  have := (lowB_spec hlow ho).1 e he hb
  omega

theorem pairB_spec (h : pairB ops = true) {i j : Nat} {x y : Oper} (hi : ops[i]? = some x) (hj : ops[j]? = some y) (hne : i ≠ j) :
    (∀ d, x.dst = some d → y.dst ≠ some d) ∧ (Region.waitsFor .any ops i j = true ∨ Region.waitsFor .any ops j i = true ∨ ∀ d, y.dst = some d → d ∉ x.looksAt ops) := by
  have his : i < ops.size := (Array.getElem?_eq_some_iff.1 hi).1
  have hjs : j < ops.size := (Array.getElem?_eq_some_iff.1 hj).1
  rcases Nat.lt_or_ge j i with hlt | hge
  · have h1 := List.all_eq_true.1 (List.all_eq_true.1 h i (List.mem_range.2 his)) j (List.mem_range.2 hlt)
    simp only [hi, hj, Bool.and_eq_true, Bool.or_eq_true] at h1
    refine ⟨fun d hd hd2 => ?_, ?_⟩
    · have := h1.2; rw [hd, hd2] at this; simp at this
    · rcases h1.1 with h2 | h2
      · exact .inl h2
      · exact .inr (.inr (Oper.apart_spec h2).2.2)
  · have h1 := List.all_eq_true.1 (List.all_eq_true.1 h j (List.mem_range.2 hjs)) i (List.mem_range.2 (by omega))
    simp only [hi, hj, Bool.and_eq_true, Bool.or_eq_true] at h1
    refine ⟨fun d hd hd2 => ?_, ?_⟩
    · have := h1.2; rw [hd2, hd] at this; simp at this
    · rcases h1.1 with h2 | h2
      · exact .inr (.inl h2)
      · exact .inr (.inr (Oper.apart_spec h2).1)

theorem topB_spec {S : List Nat} {i : Nat} (h : topB ops S i = true) : ∃ o, ops[i]? = some o ∧ i ∉ S ∧ ∀ e ∈ o.after, Region.binds .any e = true → e.on ∈ S := by
  unfold topB at h
  split at h
  case h_2 => cases h
  rename_i o ho
  simp only [Bool.and_eq_true] at h
  refine ⟨o, ho, fun hi => ?_, fun e he hb => ?_⟩
  · rw [(elemB_spec i S).2 hi] at h; simp at h
  · have := Array.all_eq_true'.1 h.2 e he
    rw [hb] at this
    exact (elemB_spec _ _).1 (by simpa using this)

def Listed (l : Array Bool) (j : Nat) : Prop := l.getD j false = true

theorem waits_mem {j i : Nat} {oj : Oper} (hj : ops[j]? = some oj) : Region.waitsFor .any ops j i = true ↔ ∃ e ∈ oj.after, Region.binds .any e = true ∧ e.on = i := by
  constructor
  · intro h
    obtain ⟨o', ho', e, he, hb, hon⟩ := Region.waitsFor_spec h
    obtain rfl : o' = oj := Option.some.inj (ho'.symm.trans hj)
    exact ⟨e, he, hb, hon⟩
  · rintro ⟨e, he, hb, hon⟩
    unfold Region.waitsFor
    rw [hj]
    exact Array.any_eq_true'.2 ⟨e, he, by simp [hb, hon]⟩

/-- What a still operation that waits reads, and that it yields its value. -/
structure Waits (P : Program) (ops : Array Oper) (a0 : Act) (V : Nat → Value) (ps : List Pend) (w : World) (j : Nat) (oj : Oper) (ej : Env) (op : Op) (g : Option (Value × Bool)) : Prop where
  sub : subst ej oj.op = some op
  known : oj.op.operands.toList.all ej.known = true
  fit : fits a0.tmps.size oj.dst = true
  guard : match oj.guard with
    | none => g = none
    | some (k, want) => ∃ x, guardVal ops.toList ej k = some x ∧ g = some (x, want)
  reads : ∀ t ∈ oj.looksAt ops, ∀ x, Env.get ej t = some x → (∃ k ok, Region.waitsFor .any ops j k = true ∧ ops[k]? = some ok ∧ ok.dst = some t ∧ x = V k) ∨
    ((∀ k ok, Region.waitsFor .any ops j k = true → ops[k]? = some ok → ok.dst ≠ some t) ∧ a0.tmps[t]? = some x)
  still : again P w op oj.type g (V j)
  inPs : moves op = true ∨ (⟨j, op, oj.type, g, V j⟩ : Pend) ∈ ps

structure TInv (P : Program) (ops : Array Oper) (a0 : Act) (S : List Nat) (e : Env) (ps : List Pend) (V : Nat → Value) (listed : Array Bool) (a : Act) (w : World) : Prop where
  size : listed.size = ops.size
  closed : ∀ j oj, ops[j]? = some oj → Listed listed j → ∀ x ∈ oj.after, Region.binds .any x = true → Listed listed x.on
  sub : ∀ j, Listed listed j → j ∈ S
  closedS : ∀ j ∈ S, ∀ oj, ops[j]? = some oj → ∀ x ∈ oj.after, Region.binds .any x = true → x.on ∈ S
  beh : Beh (dsts ops.toList) a0 a
  done : ∀ j oj d, ops[j]? = some oj → Listed listed j → oj.dst = some d → a.tmps[d]? = some (V j)
  rest : ∀ t, (∀ j oj, ops[j]? = some oj → Listed listed j → oj.dst ≠ some t) → a.tmps[t]? = a0.tmps[t]?
  env : ∀ t x, Env.get e t = some x → (∃ j oj, j ∈ S ∧ ops[j]? = some oj ∧ oj.dst = some t ∧ x = V j) ∨ ((∀ j oj, j ∈ S → ops[j]? = some oj → oj.dst ≠ some t) ∧ a0.tmps[t]? = some x)
  pend : ∀ j oj, j ∈ S → ops[j]? = some oj → ¬ Listed listed j → ∃ ej op g, Waits P ops a0 V ps w j oj ej op g

theorem again_any {w w' : World} {op : Op} {ty : TypeId} {g : Option (Value × Bool)} {v : Value} (hm : moves op = true) (h : again P w op ty g v) : again P w' op ty g v := by
  cases op <;> first | exact h | simp [moves] at hm

theorem againAll_spec {w : World} {R : Prop} : ∀ {ps : List Pend}, againAll P w ps R → (∀ p ∈ ps, again P w p.op p.ty p.g p.v) ∧ R
  | [], h => ⟨fun _ hp => (by cases hp), h⟩
  | p :: ps, h => by
    have := againAll_spec h.2
    refine ⟨fun q hq => ?_, this.2⟩
    rcases List.mem_cons.1 hq with rfl | hq
    · exact h.1
    · exact this.1 q hq

theorem dropP_mem {d : List Nat} {p : Pend} (hd : p.i ∉ d) : ∀ {ps : List Pend}, p ∈ ps → p ∈ dropP d ps
  | q :: ps, h => by
    unfold dropP
    rcases List.mem_cons.1 h with rfl | h
    · have : elemB p.i d = false := by rw [Bool.eq_false_iff]; intro hh; exact hd ((elemB_spec _ _).1 hh)
      rw [this]; simp
    · split
      · exact dropP_mem hd h
      · exact List.mem_cons_of_mem _ (dropP_mem hd h)

theorem keep_in {ks : List Nat} {t : Nat} (ht : t ∈ ks) : ∀ (e : List (Nat × Value)), Env.get (Env.keep ks e) t = Env.get e t
  | [] => rfl
  | (s, u) :: e => by
    unfold Env.keep
    split
    · rw [Env.get_cons, Env.get_cons, keep_in ht e]
    · rename_i hs
      rw [Env.get_cons, keep_in ht e]
      have : s ≠ t := by
        rintro rfl
        rw [(elemB_spec s ks).2 ht] at hs
        cases hs
      rw [beq_false this]

theorem keep_get0 (ks : List Nat) : ∀ (e : List (Nat × Value)) (t : Nat) (v : Value), Env.get (Env.keep ks e) t = some v → Env.get e t = some v ∧ t ∈ ks := fun e t v h => by
  have ht : t ∈ ks := by
    induction e with
    | nil => simp [Env.keep, Env.get_nil] at h
    | cons p e ih =>
      obtain ⟨s, u⟩ := p
      unfold Env.keep at h
      split at h
      · rename_i hs
        rw [Env.get_cons] at h
        by_cases e1 : s = t
        · subst e1; exact (elemB_spec _ _).1 hs
        · rw [beq_false e1] at h; exact ih h
      · exact ih h
  exact ⟨by rw [← keep_in ht e]; exact h, ht⟩

/-- What is known of a few is enough for an operation over them. -/
theorem subst_keep {e : Env} {ks : List Nat} {op : Op} (h : ∀ t, Operand.tmp t ∈ op.operands → t ∈ ks) : subst (Env.keep ks e) op = subst e op ∧ (op.operands.toList.all (Env.known (Env.keep ks e)) = op.operands.toList.all (Env.known e)) := by
  have hs : ∀ x ∈ op.operands, Env.sub (Env.keep ks e) x = Env.sub e x := by
    intro x hx
    cases x with
    | tmp t => simp only [Env.sub]; rw [keep_in (h t hx)]
    | _ => rfl
  have hk : ∀ x ∈ op.operands, Env.known (Env.keep ks e) x = Env.known e x := by
    intro x hx
    cases x with
    | tmp t => simp only [Env.known]; rw [keep_in (h t hx)]
    | _ => rfl
  have hm : ∀ (xs : Array Operand), (∀ x ∈ xs, x ∈ op.operands) → xs.map (Env.sub (Env.keep ks e)) = xs.map (Env.sub e) := fun xs hx => Array.map_congr_left fun x hxx => hs x (hx x hxx)
  have hp : ∀ (xs : Array (Nat × Operand)), (∀ p ∈ xs, p.2 ∈ op.operands) → xs.map (fun p => (p.1, Env.sub (Env.keep ks e) p.2)) = xs.map (fun p => (p.1, Env.sub e p.2)) := fun xs hx => Array.map_congr_left fun x hxx => by rw [hs x.2 (hx x hxx)]
  have ho : ∀ (x : Option Operand), (∀ y, x = some y → y ∈ op.operands) → x.map (Env.sub (Env.keep ks e)) = x.map (Env.sub e) := fun x hx => by
    cases x with
    | none => rfl
    | some y => simp only [Option.map_some, hs y (hx y rfl)]
  refine ⟨?_, ?_⟩
  · cases op
    case call c =>
      obtain ⟨cal, args, ts⟩ := c
      have ha := hm args (fun x hx => by simp [Op.operands, Call.operands, hx])
      cases cal with
      | value f => simp only [subst, ha]; rw [hs f (by simp [Op.operands, Call.operands])]
      | invoke r m => rfl
      | builtin b => cases b <;> simp only [subst, ha]
    case build t xs => simp only [subst]; rw [hp xs fun p hpp => by simp only [Op.operands, List.mem_toArray, List.mem_map]; exact ⟨p, by simpa using hpp, rfl⟩]
    case buildSlice t n xs => simp only [subst]; rw [hp xs fun p hpp => by simp only [Op.operands, List.mem_toArray, List.mem_map]; exact ⟨p, by simpa using hpp, rfl⟩]
    case makeFunc f first captured => simp only [subst]; rw [hm first fun x hx => by simp [Op.operands, hx], hm captured fun x hx => by simp [Op.operands, hx]]
    case makeMap t r => cases r <;> rfl
    case slice t x lo hi mx =>
      simp only [subst]
      rw [hs x (by simp [Op.operands]), ho lo (fun y hy => by simp [Op.operands, hy]), ho hi (fun y hy => by simp [Op.operands, hy]), ho mx (fun y hy => by simp [Op.operands, hy])]
    all_goals simp only [Op.operands, List.mem_toArray, List.mem_cons, List.not_mem_nil, or_false, forall_eq_or_imp, forall_eq] at hs
    all_goals first
      | rfl
      | (simp only [subst]; rw [hs])
      | (simp only [subst]; rw [hs.1, hs.2.1, hs.2.2.1, hs.2.2.2])
      | (simp only [subst]; rw [hs.1, hs.2.1, hs.2.2])
      | (simp only [subst]; rw [hs.1, hs.2])
  · apply Bool.eq_iff_iff.2
    simp only [List.all_eq_true]
    exact ⟨fun h' x hx => by rw [← hk x (by simpa using hx)]; exact h' x hx, fun h' x hx => by rw [hk x (by simpa using hx)]; exact h' x hx⟩
end tree

theorem wpAny_inv {P : Program} {md : Region.Mode} {ops : Array Oper} {Q : Exit → Act → World → Prop} (I : Array Bool → Act → World → Prop)
    (hstep : ∀ listed a w, I listed a w → ∀ i ∈ Region.ready md ops listed, wpOp P ops Q i (fun a' w' => I (listed.setIfInBounds i true) a' w') a w)
    (hdone : ∀ listed a w, I listed a w → Region.ready md ops listed = [] → Q .normal a w) :
    ∀ (fuel : Nat) (listed : Array Bool) (a : Act) (w : World), listed.toList.count false ≤ fuel → I listed a w → wpAny P md ops Q fuel listed a w
  | 0, listed, a, w, hf, h => by
    have hr : Region.ready md ops listed = [] := by
      cases hrr : Region.ready md ops listed with
      | nil => rfl
      | cons i l =>
        have hi : i ∈ Region.ready md ops listed := by rw [hrr]; simp
        obtain ⟨hu, _⟩ := mem_ready.1 hi
        have hlt : i < listed.size := by
          rcases Nat.lt_or_ge i listed.size with h | h
          · exact h
          · simp [Array.getElem?_eq_none h] at hu
        have : listed[i] = false := by simpa [hlt] using hu
        have hm : false ∈ listed.toList := by rw [← this]; simp
        have := List.count_pos_iff.2 hm
        omega
    exact ⟨hr, hdone listed a w h hr⟩
  | fuel + 1, listed, a, w, hf, h => by
    refine ⟨hdone listed a w h, fun i hi => wpOp_mono (fun a' w' h' => wpAny_inv I hstep hdone fuel _ a' w' ?_ h') (hstep listed a w h i hi)⟩
    obtain ⟨hu, _⟩ := mem_ready.1 hi
    have hlt : i < listed.size := by
      rcases Nat.lt_or_ge i listed.size with h | h
      · exact h
      · simp [Array.getElem?_eq_none h] at hu
    have hfalse : listed[i] = false := by simpa [hlt] using hu
    have hm : false ∈ listed.toList := by rw [← hfalse]; simp
    have hpos := List.count_pos_iff.2 hm
    have hc : (listed.setIfInBounds i true).toList.count false = listed.toList.count false - 1 := by
      rw [Array.toList_setIfInBounds, List.count_set (by simpa using hlt)]
      simp [hfalse]
    omega


theorem stepS_value {P : Program} {op : Op} {ty : TypeId} {w : World} {K : Value → Prop} (h : stepS P op ty w K) : ∃ v, stepS P op ty w (fun v' => v' = v) ∧ K v := by
  have hst : stK P op ty w K → ∃ v, stK P op ty w (fun v' => v' = v) ∧ K v := by
    intro h
    unfold stK at h ⊢
    split at h
    case h_2 => exact h.elim
    generalize (execOp bare _).run P w = r at h
    cases r with
    | halt x w' => exact h.elim
    | ok n w' =>
      cases n <;> try exact h.elim
      case value v => exact ⟨v, ⟨h.1, rfl⟩, h.2⟩
      case skip => exact ⟨_, ⟨h.1, rfl⟩, h.2⟩
      case enter f args =>
        obtain ⟨h1, v, h2, h3⟩ := h
        exact ⟨v, ⟨h1, v, h2, rfl⟩, h3⟩
  unfold stepS at h ⊢
  split at h
  · exact ⟨_, rfl, h⟩
  · exact ⟨_, rfl, h⟩
  · split at h
    · unfold ld1 at h ⊢
      split at h
      case h_2 => exact h.elim
      obtain ⟨cs, T, fr, hb, h⟩ := blkK_spec h
      obtain ⟨v, hv, h⟩ := valK_spec h
      refine ⟨v, ?_, h⟩
      simp only [hb, blkK, hv, valK]
    · unfold ldn at h ⊢
      split at h
      case h_2 => exact h.elim
      obtain ⟨cs, T, fr, hb, h⟩ := blkK_spec h
      obtain ⟨v, hv, h⟩ := valsK_spec h
      refine ⟨_, ?_, h⟩
      simp only [hb, blkK, hv, valsK]
    · exact h.elim
  · split at h
    case h_2 => exact h.elim
    obtain ⟨v, h1, h2⟩ := h
    exact ⟨v, ⟨v, h1, rfl⟩, h2⟩
  · obtain ⟨v, h1, h2⟩ := hst h
    exact ⟨v, h1, h2⟩

theorem gS_value {P : Program} {op : Op} {ty : TypeId} {w : World} {g : Value} {want : Bool} {K : Value → Prop} (h : gS g want (fun K' => stepS P op ty w K') K) : ∃ v, again P w op ty (some (g, want)) v ∧ K v := by
  unfold gS at h
  split at h
  · rename_i b
    by_cases hb : b = want
    · rw [if_pos hb] at h
      obtain ⟨v, h1, h2⟩ := stepS_value h
      exact ⟨v, by simp only [again, gS, hb, if_true]; exact h1, h2⟩
    · rw [if_neg hb] at h
      exact ⟨_, by simp only [again, gS, if_neg hb], h⟩
  · rename_i hnb
    refine ⟨_, ?_, h⟩
    simp only [again]
    unfold gS
    split
    · rename_i b; exact absurd rfl (hnb b)
    · rfl

section tree2
variable {P : Program} {ops : Array Oper} {a0 : Act} {S : List Nat} {e : Env} {ps : List Pend} {V : Nat → Value} {listed : Array Bool} {a : Act} {w : World}

theorem looks_operand {o : Oper} {t : Nat} (h : Operand.tmp t ∈ o.op.operands) : t ∈ o.looksAt ops := by
  unfold Oper.looksAt
  exact List.mem_append_left _ (List.mem_filterMap.2 ⟨.tmp t, Array.mem_toList_iff.2 h, rfl⟩)

theorem looks_guard {o : Oper} {k : Nat} {b : Bool} {ok : Oper} {d : Nat} (hg : o.guard = some (k, b)) (hk : ops[k]? = some ok) (hd : ok.dst = some d) : d ∈ o.looksAt ops := by
  unfold Oper.looksAt
  refine List.mem_append_right _ ?_
  simp [hg, hk, hd]

theorem guardVal_keep {o : Oper} {k : Nat} {b : Bool} (hg : o.guard = some (k, b)) (e : Env) : guardVal ops.toList (Env.keep (o.looksAt ops) e) k = guardVal ops.toList e k := by
  unfold guardVal
  rw [Array.getElem?_toList]
  cases hk : ops[k]? with
  | none => rfl
  | some ok =>
    simp only
    cases hd : ok.dst with
    | none => rfl
    | some d => exact keep_in (looks_guard hg hk hd) e

def Reads (ops : Array Oper) (a0 : Act) (V : Nat → Value) (j : Nat) (oj : Oper) (ej : Env) : Prop :=
  ∀ t ∈ oj.looksAt ops, ∀ x, Env.get ej t = some x → (∃ k ok, Region.waitsFor .any ops j k = true ∧ ops[k]? = some ok ∧ ok.dst = some t ∧ x = V k) ∨
    ((∀ k ok, Region.waitsFor .any ops j k = true → ops[k]? = some ok → ok.dst ≠ some t) ∧ a0.tmps[t]? = some x)

theorem TInv.reads_at (inv : TInv P ops a0 S e ps V listed a w) (hp : pairB ops = true) {j : Nat} {oj : Oper} (hj : ops[j]? = some oj) (hun : ¬ Listed listed j)
    (hall : ∀ x ∈ oj.after, Region.binds .any x = true → Listed listed x.on) {ej : Env} (hr : Reads ops a0 V j oj ej) : Agrees (Env.keep (oj.looksAt ops) ej) a := by
  intro t x hx
  obtain ⟨hx', ht⟩ := keep_get0 _ _ _ _ hx
  rcases hr t ht x hx' with ⟨k, ok, hw, hk, hd, rfl⟩ | ⟨hno, h0⟩
  · obtain ⟨y, hy, hb, rfl⟩ := (waits_mem hj).1 hw
    exact inv.done _ ok t hk (hall y hy hb) hd
  · rw [inv.rest t ?_]
    · exact h0
    intro k ok hk hl hd
    have hne : j ≠ k := by rintro rfl; exact hun hl
    rcases (pairB_spec hp hj hk hne).2 with h | h | h
    · exact hno k ok h hk hd
    · obtain ⟨y, hy, hb, hon⟩ := (waits_mem hk).1 h
      have := inv.closed k ok hk hl y hy hb
      rw [hon] at this
      exact hun this
    · exact h t hd ht

theorem TInv.reads_env (inv : TInv P ops a0 S e ps V listed a w) (hp : pairB ops = true) {j : Nat} {oj : Oper} (hj : ops[j]? = some oj) (hns : j ∉ S)
    (htop : ∀ x ∈ oj.after, Region.binds .any x = true → x.on ∈ S) : Reads ops a0 V j oj e := by
  intro t ht x hx
  rcases inv.env t x hx with ⟨k, ok, hk, hok, hd, hv⟩ | ⟨hno, h0⟩
  · have hne : j ≠ k := by rintro rfl; exact hns hk
    rcases (pairB_spec hp hj hok hne).2 with h | h | h
    · exact .inl ⟨k, ok, h, hok, hd, hv⟩
    · obtain ⟨y, hy, hb, hon⟩ := (waits_mem hok).1 h
      have := inv.closedS k hk ok hok y hy hb
      rw [hon] at this
      exact absurd this hns
    · exact absurd ht (h t hd)
  · refine .inr ⟨fun k ok hw hok => ?_, h0⟩
    obtain ⟨y, hy, hb, rfl⟩ := (waits_mem hj).1 hw
    exact hno _ ok (htop y hy hb) hok

def setV (V : Nat → Value) (i : Nat) (v : Value) : Nat → Value := fun j => if j = i then v else V j
theorem setV_same (V : Nat → Value) (i : Nat) (v : Value) : setV V i v i = v := if_pos rfl
theorem setV_other (V : Nat → Value) {i j : Nat} (v : Value) (h : j ≠ i) : setV V i v j = V j := if_neg h

theorem Reads.set {j i : Nat} {oj : Oper} {ej : Env} {v : Value} (h : Reads ops a0 V j oj ej) (hw : Region.waitsFor .any ops j i = false) : Reads ops a0 (setV V i v) j oj ej := by
  intro t ht x hx
  rcases h t ht x hx with ⟨k, ok, hw', hk, hd, hv⟩ | h
  · refine .inl ⟨k, ok, hw', hk, hd, ?_⟩
    rw [setV_other _ _ (by rintro rfl; rw [hw] at hw'; cases hw')]
    exact hv
  · exact .inr h

theorem put_env {S : List Nat} {V : Nat → Value} {e : Env} {i : Nat} {oi : Oper} {v : Value} (hi : ops[i]? = some oi) (hns : i ∉ S)
    (h : ∀ t x, Env.get e t = some x → (∃ j oj, j ∈ S ∧ ops[j]? = some oj ∧ oj.dst = some t ∧ x = V j) ∨ ((∀ j oj, j ∈ S → ops[j]? = some oj → oj.dst ≠ some t) ∧ a0.tmps[t]? = some x)) :
    ∀ t x, Env.get (Env.put e oi.dst v) t = some x → (∃ j oj, j ∈ i :: S ∧ ops[j]? = some oj ∧ oj.dst = some t ∧ x = setV V i v j) ∨ ((∀ j oj, j ∈ i :: S → ops[j]? = some oj → oj.dst ≠ some t) ∧ a0.tmps[t]? = some x) := by
  have old : ∀ t x, oi.dst ≠ some t → Env.get e t = some x → (∃ j oj, j ∈ i :: S ∧ ops[j]? = some oj ∧ oj.dst = some t ∧ x = setV V i v j) ∨ ((∀ j oj, j ∈ i :: S → ops[j]? = some oj → oj.dst ≠ some t) ∧ a0.tmps[t]? = some x) := by
    intro t x hne hx
    rcases h t x hx with ⟨j, oj, hj, ho, hd, hv⟩ | ⟨hno, h0⟩
    · exact .inl ⟨j, oj, List.mem_cons_of_mem _ hj, ho, hd, by rw [setV_other _ _ (by rintro rfl; exact hns hj)]; exact hv⟩
    · refine .inr ⟨fun j oj hj ho => ?_, h0⟩
      rcases List.mem_cons.1 hj with rfl | hj
      · obtain rfl : oj = oi := Option.some.inj (ho.symm.trans hi)
        exact hne
      · exact hno j oj hj ho
  intro t x hx
  cases hd : oi.dst with
  | none =>
    rw [hd] at hx
    exact old t x (by rw [hd]; simp) hx
  | some d =>
    rw [hd] at hx
    simp only [Env.put, Env.get_cons] at hx
    by_cases e1 : d = t
    · subst e1
      simp at hx
      subst hx
      exact .inl ⟨i, oi, by simp, hi, hd, (setV_same _ _ _).symm⟩
    · rw [beq_false e1] at hx
      exact old t x (by rw [hd]; simpa using e1) hx

theorem mem_addP {i : Nat} {op : Op} {ty : TypeId} {g : Option (Value × Bool)} {v : Value} {p : Pend} (h : p ∈ ps) : p ∈ addP i op ty g v ps := by
  unfold addP
  split
  · exact h
  · exact List.mem_cons_of_mem _ h

/-- A still operation is named, with its value; it comes when it comes. -/
theorem TInv.sched (inv : TInv P ops a0 S e ps V listed a w) (hp : pairB ops = true) (hlow : lowB ops = true) {i : Nat} {oi : Oper} (hi : ops[i]? = some oi) (hns : i ∉ S)
    (htop : ∀ x ∈ oi.after, Region.binds .any x = true → x.on ∈ S) {op : Op} {g : Option (Value × Bool)} {v : Value} (hsub : subst e oi.op = some op)
    (hk : oi.op.operands.toList.all e.known = true) (hf : fits a0.tmps.size oi.dst = true)
    (hg : match oi.guard with
      | none => g = none
      | some (k, want) => ∃ x, guardVal ops.toList e k = some x ∧ g = some (x, want))
    (hag : again P w op oi.type g v) : TInv P ops a0 (i :: S) (Env.put e oi.dst v) (addP i op oi.type g v ps) (setV V i v) listed a w where
  size := inv.size
  closed := inv.closed
  sub := fun j hj => List.mem_cons_of_mem _ (inv.sub j hj)
  closedS := fun j hj oj ho x hx hb => by
    rcases List.mem_cons.1 hj with rfl | hj
    · obtain rfl : oj = oi := Option.some.inj (ho.symm.trans hi)
      exact List.mem_cons_of_mem _ (htop x hx hb)
    · exact List.mem_cons_of_mem _ (inv.closedS j hj oj ho x hx hb)
  beh := inv.beh
  done := fun j oj d ho hl hd => by
    rw [setV_other _ _ (by rintro rfl; exact hns (inv.sub _ hl))]
    exact inv.done j oj d ho hl hd
  rest := inv.rest
  env := put_env hi hns inv.env
  pend := fun j oj hj ho hun => by
    have hself : Region.waitsFor .any ops i i = false := by
      rw [Bool.eq_false_iff]; intro hh; have := waits_low hlow hh; omega
    rcases List.mem_cons.1 hj with rfl | hjS
    · obtain rfl : oj = oi := Option.some.inj (ho.symm.trans hi)
      refine ⟨e, op, g, hsub, hk, hf, hg, (inv.reads_env hp hi hns htop).set hself, by rw [setV_same]; exact hag, ?_⟩
      unfold addP
      cases moves op with
      | true => exact .inl rfl
      | false => exact .inr (by rw [setV_same]; simp)
    · obtain ⟨ej, opj, gj, W⟩ := inv.pend j oj hjS ho hun
      have hne : j ≠ i := by rintro rfl; exact hns hjS
      have hnw : Region.waitsFor .any ops j i = false := by
        rw [Bool.eq_false_iff]; intro hh
        obtain ⟨y, hy, hb, hon⟩ := (waits_mem ho).1 hh
        have := inv.closedS j hjS oj ho y hy hb
        rw [hon] at this
        exact hns this
      refine ⟨ej, opj, gj, W.sub, W.known, W.fit, W.guard, Reads.set W.reads hnw, by rw [setV_other _ _ hne]; exact W.still, ?_⟩
      rw [setV_other _ _ hne]
      exact W.inPs.imp id mem_addP

theorem Listed.lt {i : Nat} (h : Listed listed i) : i < listed.size := by
  rcases Nat.lt_or_ge i listed.size with h' | h'
  · exact h'
  · unfold Listed at h
    simp [Array.getElem?_eq_none h'] at h
theorem Listed.set {i j : Nat} (h : Listed (listed.setIfInBounds i true) j) : j = i ∨ Listed listed j := by
  by_cases e1 : i = j
  · exact .inl e1.symm
  · refine .inr ?_
    unfold Listed at h ⊢
    rw [getD_set_ne false e1] at h
    exact h
theorem Listed.mono {i j : Nat} (h : Listed listed j) : Listed (listed.setIfInBounds i true) j := getD_set_true h
theorem Listed.self {i : Nat} (h : i < listed.size) : Listed (listed.setIfInBounds i true) i := by
  unfold Listed
  simp [Array.getD_eq_getD_getElem?, h]

/-- What stands behind one more that is listed, but for what waits. -/
theorem TInv.listing (inv : TInv P ops a0 S e ps V listed a w) (hp : pairB ops = true) {i : Nat} {oi : Oper} (hi : ops[i]? = some oi) (hun : ¬ Listed listed i) (hall : ∀ x ∈ oi.after, Region.binds .any x = true → Listed listed x.on)
    (hf : fits a0.tmps.size oi.dst = true) (v : Value) (V' : Nat → Value) (hv : V' i = v) (hV : ∀ j, Listed listed j → V' j = V j) :
    (listed.setIfInBounds i true).size = ops.size ∧
    (∀ j oj, ops[j]? = some oj → Listed (listed.setIfInBounds i true) j → ∀ x ∈ oj.after, Region.binds .any x = true → Listed (listed.setIfInBounds i true) x.on) ∧
    Beh (dsts ops.toList) a0 (a.put oi.dst v) ∧
    (∀ j oj d, ops[j]? = some oj → Listed (listed.setIfInBounds i true) j → oj.dst = some d → (a.put oi.dst v).tmps[d]? = some (V' j)) ∧
    (∀ t, (∀ j oj, ops[j]? = some oj → Listed (listed.setIfInBounds i true) j → oj.dst ≠ some t) → (a.put oi.dst v).tmps[t]? = a0.tmps[t]?) := by
  have hil : i < listed.size := by rw [inv.size]; exact (Array.getElem?_eq_some_iff.1 hi).1
  refine ⟨by simp [inv.size], fun j oj ho hl x hx hb => ?_, ?_, fun j oj d ho hl hd => ?_, fun t ht => ?_⟩
  · rcases hl.set with rfl | hl
    · obtain rfl : oj = oi := Option.some.inj (ho.symm.trans hi)
      exact (hall x hx hb).mono
    · exact (inv.closed j oj ho hl x hx hb).mono
  · refine inv.beh.trans (Beh.put (fun t ht => ?_) v)
    unfold dsts
    exact List.mem_filterMap.2 ⟨oi, by rw [Array.mem_toList_iff]; exact Array.mem_of_getElem? hi, ht⟩
  · rcases hl.set with rfl | hl
    · obtain rfl : oj = oi := Option.some.inj (ho.symm.trans hi)
      rw [hd] at hf ⊢
      have hdl : d < a.tmps.size := by rw [inv.beh.size]; exact Nat.le_of_ble_eq_true (by simpa [fits, Nat.blt] using hf)
      simp [Act.put, hdl, hv]
    · have hne : i ≠ j := by rintro rfl; exact hun hl
      rw [put_other a ?_ v, hV j hl]
      · exact inv.done j oj d ho hl hd
      intro hh
      exact (pairB_spec hp hi ho hne).1 d hh hd
  · rw [put_other a ?_ v]
    · exact inv.rest t fun j oj ho hl => ht j oj ho hl.mono
    · exact ht i oi hi (Listed.self hil)

theorem stK_still {o : Oper} {e : Env} {a : Act} {w : World} {op : Op} (hA : Agrees e a) (hs : subst e o.op = some op) (hk : o.op.operands.toList.all e.known = true) {K : Value → Prop}
    (h : stK P op o.type w K) : o.still P a w (fun a' => ∃ v, K v ∧ a' = a.put o.dst v) := by
  unfold stK at h
  split at h
  case h_2 => exact h.elim
  rename_i hok
  unfold Oper.still
  rw [execOp_subst hA o hs (fun x hx => by rw [List.all_eq_true] at hk; exact hk x (by simpa using hx)) hok]
  generalize (execOp bare _).run P w = r at h
  cases r with
  | halt x w' => exact h.elim
  | ok n w' =>
    cases n <;> try exact h.elim
    case value v => exact ⟨h.1, v, h.2, rfl⟩
    case skip => exact ⟨h.1, _, h.2, rfl⟩
    case enter f args =>
      obtain ⟨h1, v, h2, h3⟩ := h
      exact ⟨h1, v, h2, v, h3, rfl⟩

theorem again_wp {i : Nat} {o : Oper} {e : Env} {op : Op} {g : Option (Value × Bool)} {v : Value} (hi : ops[i]? = some o) (hA : Agrees e a) (hs : subst e o.op = some op) (hk : o.op.operands.toList.all e.known = true)
    (hg : match o.guard with
      | none => g = none
      | some (k, want) => ∃ x, guardVal ops.toList e k = some x ∧ g = some (x, want))
    (h : again P w op o.type g v) {K : Act → World → Prop} {Q : Exit → Act → World → Prop} (hK : K (a.put o.dst v) w) : wpOp P ops Q i K a w := by
  have hst : stepS P op o.type w (fun v' => v' = v) → o.wp P a w K Q := fun h' =>
    Oper.wp_of_still (K := fun a' => ∃ v', v' = v ∧ a' = a.put o.dst v') (fun a' h => by obtain ⟨_, rfl, rfl⟩ := h; exact hK) (stK_still hA hs hk (stepS_stK h'))
  have hts : ops.toList.toArray = ops := by simp
  unfold wpOp
  rw [hi]
  simp only
  split at hg
  · rename_i hgd
    subst hg
    rw [if_pos (by simp [Region.wanted, hgd])]
    exact .inl (hst h)
  · rename_i k want hgd
    obtain ⟨x, hx, rfl⟩ := hg
    unfold again gS at h
    simp only at h
    split at h
    case h_2 =>
      rename_i hnb
      have hy := guardVal_none hA hx hnb
      rw [hts] at hy
      rw [if_neg (by simp [Region.wanted, hgd, hy])]
      rw [h]; exact hK
    rename_i b
    have hy := guardVal_spec hA hx
    rw [hts] at hy
    by_cases hb : b = want
    · subst hb
      rw [if_pos rfl] at h
      rw [if_pos (by simp [Region.wanted, hgd, hy])]
      exact .inl (hst h)
    · rw [if_neg hb] at h
      rw [if_neg (by simp [Region.wanted, hgd, hy, hb])]
      rw [h]; exact hK

/-- A still operation that was named comes. -/
theorem TInv.still (inv : TInv P ops a0 S e ps V listed a w) (hp : pairB ops = true) {i : Nat} {oi : Oper} (hi : ops[i]? = some oi) (hS : i ∈ S) (hun : ¬ Listed listed i)
    (hall : ∀ x ∈ oi.after, Region.binds .any x = true → Listed listed x.on) {K : Act → World → Prop} {Q : Exit → Act → World → Prop}
    (hK : ∀ a', TInv P ops a0 S e ps V (listed.setIfInBounds i true) a' w → K a' w) : wpOp P ops Q i K a w := by
  obtain ⟨ei, op, g, W⟩ := inv.pend i oi hS hi hun
  have hsk := subst_keep (e := ei) (ks := oi.looksAt ops) (op := oi.op) (fun t ht => looks_operand ht)
  refine again_wp hi (inv.reads_at hp hi hun hall W.reads) (hsk.1.trans W.sub) (hsk.2.trans W.known) ?_ W.still (hK _ ?_)
  · have hw := W.guard
    cases hgd : oi.guard with
    | none => rw [hgd] at hw; exact hw
    | some p =>
      obtain ⟨k, want⟩ := p
      rw [hgd] at hw
      obtain ⟨x, hx, hg2⟩ := hw
      exact ⟨x, by rw [guardVal_keep hgd]; exact hx, hg2⟩
  · obtain ⟨h1, h2, h3, h4, h5⟩ := inv.listing hp hi hun hall W.fit (V i) V rfl fun _ _ => rfl
    exact ⟨h1, h2, fun j hj => hj.set.elim (fun e => e ▸ hS) (inv.sub j), inv.closedS, h3, h4, h5, inv.env, fun j oj hj ho hun' => inv.pend j oj hj ho fun hl => hun' hl.mono⟩

theorem anc_listed (inv : TInv P ops a0 S e ps V listed a w) : ∀ (f j i : Nat), (∀ k, Region.waitsFor .any ops j k = true → Listed listed k) → ancB ops f j i = true → Listed listed i
  | 0, _, _, _, h => by cases h
  | f + 1, j, i, hj, h => by
    simp only [ancB, Bool.or_eq_true] at h
    rcases h with h | h
    · exact hj i h
    · obtain ⟨k, _, hk⟩ := List.any_eq_true.1 h
      simp only [Bool.and_eq_true] at hk
      refine anc_listed inv f k i (fun k2 hk2 => ?_) hk.2
      obtain ⟨ok, hok, y, hy, hb, rfl⟩ := Region.waitsFor_spec hk2
      exact inv.closed k ok hok (hj k hk.1) y hy hb

/-- An effect comes. -/
theorem TInv.effect (inv : TInv P ops a0 S e ps V listed a w) (hp : pairB ops = true) {K : Env → World → Prop} {m : Nat} {d : List Nat} {t : Tr} {om : Oper} (hm : ops[m]? = some om) (hns : m ∉ S)
    (hall : ∀ x ∈ om.after, Region.binds .any x = true → Listed listed x.on) (hd : (d.all fun i => ancB ops 4 m i) = true)
    (h : Tops P a0.tmps.size ops.toList K (.eff m d t) ps e w) {K' : Act → World → Prop} {Q : Exit → Act → World → Prop}
    (hK : ∀ v a' w', TInv P ops a0 (m :: S) (Env.put e om.dst v) (dropP d ps) (setV V m v) (listed.setIfInBounds m true) a' w' → Tops P a0.tmps.size ops.toList K t (dropP d ps) (Env.put e om.dst v) w' → K' a' w') :
    wpOp P ops Q m K' a w := by
  have hun : ¬ Listed listed m := fun hl => hns (inv.sub m hl)
  simp only [Tops, Array.getElem?_toList, hm] at h
  split at h
  case h_2 => exact h.elim
  rename_i op hfk hs
  simp only [Bool.and_eq_true] at hfk
  obtain ⟨hf, hk⟩ := hfk
  have hsk := subst_keep (e := e) (ks := om.looksAt ops) (op := om.op) (fun t ht => looks_operand ht)
  have hA := inv.reads_at hp hm hun hall (inv.reads_env hp hm hns fun x hx hb => inv.sub _ (hall x hx hb))
  have hnext : ∀ v w', againAll P w' (dropP d ps) (Tops P a0.tmps.size ops.toList K t (dropP d ps) (Env.put e om.dst v) w') → K' (a.put om.dst v) w' := by
    intro v w' hag
    obtain ⟨hag, hT⟩ := againAll_spec hag
    refine hK v _ w' ?_ hT
    obtain ⟨h1, h2, h3, h4, h5⟩ := inv.listing hp hm hun hall hf v (setV V m v) (setV_same _ _ _) fun j hl => setV_other _ _ (by rintro rfl; exact hun hl)
    refine ⟨h1, h2, fun j hj => hj.set.elim (fun e => e ▸ List.mem_cons_self) (fun hl => List.mem_cons_of_mem _ (inv.sub j hl)), fun j hj oj ho x hx hb => ?_, h3, h4, h5, put_env hm hns inv.env, fun j oj hj ho hun' => ?_⟩
    · rcases List.mem_cons.1 hj with rfl | hj
      · obtain rfl : oj = om := Option.some.inj (ho.symm.trans hm)
        exact List.mem_cons_of_mem _ (inv.sub _ (hall x hx hb))
      · exact List.mem_cons_of_mem _ (inv.closedS j hj oj ho x hx hb)
    · have hml : m < listed.size := by rw [inv.size]; exact (Array.getElem?_eq_some_iff.1 hm).1
      have hne : j ≠ m := by rintro rfl; exact hun' (Listed.self hml)
      have hjS : j ∈ S := (List.mem_cons.1 hj).resolve_left hne
      have hunj : ¬ Listed listed j := fun hl => hun' hl.mono
      obtain ⟨ej, opj, gj, W⟩ := inv.pend j oj hjS ho hunj
      have hnw : Region.waitsFor .any ops j m = false := by
        rw [Bool.eq_false_iff]; intro hh
        obtain ⟨y, hy, hb, hon⟩ := (waits_mem ho).1 hh
        have := inv.closedS j hjS oj ho y hy hb
        rw [hon] at this
        exact hns this
      have hjd : j ∉ d := by
        intro hjd
        refine hunj (anc_listed inv 4 m j (fun k hk => ?_) (List.all_eq_true.1 hd j hjd))
        obtain ⟨y, hy, hb, rfl⟩ := (waits_mem hm).1 hk
        exact hall y hy hb
      refine ⟨ej, opj, gj, W.sub, W.known, W.fit, W.guard, Reads.set W.reads hnw, ?_, ?_⟩
      · rw [setV_other _ _ hne]
        rcases W.inPs with hmv | hin
        · exact again_any hmv W.still
        · exact hag _ (dropP_mem hjd hin)
      · rw [setV_other _ _ hne]
        exact W.inPs.imp id (dropP_mem hjd)
  have hts : ops.toList.toArray = ops := by simp
  have hop : ∀ {o' : Op}, subst (Env.keep (om.looksAt ops) e) om.op = some o' → opK P o' om.type w (fun v w' => againAll P w' (dropP d ps) (Tops P a0.tmps.size ops.toList K t (dropP d ps) (Env.put e om.dst v) w')) → om.wp P a w K' Q := fun hs' h' =>
    opK_wp hA hs' (hsk.2.trans hk) h' hnext
  unfold wpOp
  rw [hm]
  simp only
  split at h
  · rename_i hg
    rw [if_pos (by simp [Region.wanted, hg])]
    exact .inl (hop (hsk.1.trans hs) (stepK_opK h))
  · rename_i j want hg
    split at h
    case h_2 => exact h.elim
    rename_i g hgv
    rw [← guardVal_keep hg] at hgv
    unfold gK at h
    split at h
    case h_2 =>
      rename_i hnb
      have hy := guardVal_none hA hgv hnb
      rw [hts] at hy
      rw [if_neg (by simp [Region.wanted, hg, hy])]
      exact hnext _ _ h
    rename_i b
    have hy := guardVal_spec hA hgv
    rw [hts] at hy
    by_cases hb : b = want
    · subst hb
      rw [if_pos rfl] at h
      rw [if_pos (by simp [Region.wanted, hg, hy])]
      exact .inl (hop (hsk.1.trans hs) (stepK_opK h))
    · rw [if_neg hb] at h
      rw [if_neg (by simp [Region.wanted, hg, hy, hb])]
      exact hnext _ _ h

/-- The relation over what is listed. -/
def TI (P : Program) (ops : Array Oper) (a0 : Act) (K : Env → World → Prop) (listed : Array Bool) (a : Act) (w : World) : Prop :=
  ∃ t S e ps V, TInv P ops a0 S e ps V listed a w ∧ isSeg t = false ∧ fullB ops S (heads t) = true ∧ treeS ops t S = true ∧ Tops P a0.tmps.size ops.toList K t ps e w

theorem TI_of_seg (hp : pairB ops = true) (hlow : lowB ops = true) {K : Env → World → Prop} {t : Tr} : ∀ (s : List Nat) {S : List Nat} {e : Env} {ps : List Pend} {V : Nat → Value}, TInv P ops a0 S e ps V listed a w →
    segS ops (fun S' => !isSeg t && fullB ops S' (heads t) && treeS ops t S') s S = true → Tsegs P a0.tmps.size ops.toList w (fun ps' e' => Tops P a0.tmps.size ops.toList K t ps' e' w) s ps e → TI P ops a0 K listed a w
  | [], S, e, ps, V, inv, hc, h => by
    simp only [segS, Bool.and_eq_true, Bool.not_eq_true'] at hc
    exact ⟨t, S, e, ps, V, inv, hc.1.1, hc.1.2, hc.2, h⟩
  | i :: s, S, e, ps, V, inv, hc, h => by
    simp only [segS, Bool.and_eq_true] at hc
    obtain ⟨oi, hi, hns, htop⟩ := topB_spec hc.1
    simp only [Tsegs, Array.getElem?_toList, hi] at h
    split at h
    case h_2 => exact h.elim
    rename_i op hfk hs
    simp only [Bool.and_eq_true] at hfk
    obtain ⟨hf, hk⟩ := hfk
    split at h
    · rename_i hg
      obtain ⟨v, hag, hn⟩ := stepS_value h
      exact TI_of_seg hp hlow s (inv.sched hp hlow hi hns htop hs hk hf (g := none) (v := v) (by simp only [hg]) hag) hc.2 hn
    · rename_i j want hg
      split at h
      case h_2 => exact h.elim
      rename_i g hgv
      obtain ⟨v, hag, hn⟩ := gS_value h
      exact TI_of_seg hp hlow s (inv.sched hp hlow hi hns htop hs hk hf (g := some (g, want)) (v := v) (by simp only [hg]; exact ⟨g, hgv, rfl⟩) hag) hc.2 hn

theorem head_of {K : Env → World → Prop} {m : Nat} : ∀ {t : Tr}, m ∈ heads t → treeS ops t S = true → Tops P a0.tmps.size ops.toList K t ps e w → ∃ d t', treeS ops (.eff m d t') S = true ∧ Tops P a0.tmps.size ops.toList K (.eff m d t') ps e w
  | .fin, hm, _, _ => by simp [heads] at hm
  | .seg _ _, hm, _, _ => by simp [heads] at hm
  | .eff m' d t, hm, ht, h => by
    simp [heads] at hm
    subst hm
    exact ⟨d, t, ht, h⟩
  | .alt x y, hm, ht, h => by
    simp only [heads, List.mem_append] at hm
    simp only [treeS, Bool.and_eq_true] at ht
    rcases hm with hm | hm
    · exact head_of hm ht.1.2 h.1
    · exact head_of hm ht.2 h.2

theorem ends_of {K : Env → World → Prop} (hall : ∀ i, i < ops.size → i ∈ S) : ∀ {t : Tr}, treeS ops t S = true → isSeg t = false → Tops P a0.tmps.size ops.toList K t ps e w → K e w
  | .fin, _, _, h => h
  | .seg _ _, _, hs, _ => by simp [isSeg] at hs
  | .eff m d t, ht, _, _ => by
    simp only [treeS, Bool.and_eq_true] at ht
    obtain ⟨o, ho, hns, _⟩ := topB_spec ht.1.1.1
    exact absurd (hall m (Array.getElem?_eq_some_iff.1 ho).1) hns
  | .alt x y, ht, _, h => by
    simp only [treeS, Bool.and_eq_true, Bool.not_eq_true'] at ht
    exact ends_of hall ht.1.2 ht.1.1 h.1
end tree2

theorem tree_sound {P : Program} {ops : Array Oper} {id : Nat} (hm : P.follows .mixedOrders = true) (a0 : Act) (e0 : Env) (w0 : World) (K : Env → World → Prop) (Q : Exit → Act → World → Prop) (t : Tr) (ht : treeB ops t = true)
    (hA : Agrees e0 a0) (h : Tops P a0.tmps.size ops.toList K t [] e0 w0.drew) (hQ : ∀ e' a' w', Agrees e' a' → Beh (dsts ops.toList) a0 a' → K e' w' → Q .normal a' w') : (Code.region id ops true).wp P Q a0 w0 := by
  simp only [treeB, Bool.and_eq_true] at ht
  obtain ⟨⟨⟨⟨_, hlow⟩, hp⟩, hseg⟩, htree⟩ := ht
  have inv0 : TInv P ops a0 [] e0 [] (fun _ => undef) (Array.replicate ops.size false) a0 w0.drew := by
    have hno : ∀ j, ¬ Listed (Array.replicate ops.size false) j := fun j hl => by
      unfold Listed at hl
      rw [getD_replicate_false] at hl
      cases hl
    exact ⟨by simp, fun j _ _ hl => absurd hl (hno j), fun j hl => absurd hl (hno j), fun j hj => (by cases hj), Beh.refl _ _, fun j _ _ _ hl => absurd hl (hno j), fun _ _ => rfl,
      fun t x hx => .inr ⟨fun j _ hj => (by cases hj), hA t x hx⟩, fun j _ hj => (by cases hj)⟩
  have key : ∀ {s : List Nat} {t' : Tr} {S : List Nat} {e : Env} {ps : List Pend} {V : Nat → Value} {listed : Array Bool} {a : Act} {w : World}, TInv P ops a0 S e ps V listed a w → treeS ops (.seg s t') S = true → Tops P a0.tmps.size ops.toList K (.seg s t') ps e w → TI P ops a0 K listed a w :=
    fun inv hs hT => TI_of_seg hp hlow _ inv hs hT
  refine wp_region_any hm (wpAny_inv (TI P ops a0 K) ?_ ?_ ops.size _ a0 w0.drew (by simp) ?_)
  · rintro listed a w ⟨t, S, e, ps, V, inv, hns, hfull, htr, hT⟩ i hi
    obtain ⟨hun0, oi, hoi, hall⟩ := mem_ready.1 hi
    have his : i < ops.size := (Array.getElem?_eq_some_iff.1 hoi).1
    have hun : ¬ Listed listed i := fun hl => by
      unfold Listed at hl
      rw [getD_both hun0] at hl
      cases hl
    by_cases hS : i ∈ S
    · exact inv.still hp hoi hS hun hall fun a' inv' => ⟨t, S, e, ps, V, inv', hns, hfull, htr, hT⟩
    · have hh : i ∈ heads t := by
        have h1 := List.all_eq_true.1 hfull i (List.mem_range.2 his)
        simp only [Bool.or_eq_true, hoi] at h1
        rcases h1 with (h1 | h1) | h1
        · exact absurd ((elemB_spec _ _).1 h1) hS
        · exact (elemB_spec _ _).1 h1
        · obtain ⟨x, hx, hb⟩ := Array.any_eq_true'.1 h1
          simp only [Bool.and_eq_true, Bool.not_eq_true'] at hb
          have := (elemB_spec _ _).2 (inv.sub _ (hall x hx hb.1))
          rw [hb.2] at this
          cases this
      obtain ⟨d, t', htr', hT'⟩ := head_of hh htr hT
      have htr2 := htr'
      simp only [treeS, Bool.and_eq_true] at htr2
      obtain ⟨⟨⟨_, hseg'⟩, hd⟩, hrest⟩ := htr2
      refine inv.effect hp hoi hS hall hd hT' fun v a' w' inv' hT2 => ?_
      cases t' with
      | seg s t2 => exact key inv' hrest hT2
      | _ => simp [isSeg] at hseg'
  · rintro listed a w ⟨t, S, e, ps, V, inv, hns, hfull, htr, hT⟩ hr
    have hl : ∀ i, i < ops.size → Listed listed i := by
      intro i
      induction i using Nat.strongRecOn with
      | _ i ih =>
        intro hi
        cases hl : listed.getD i false with
        | true => exact hl
        | false =>
          have ho : ops[i]? = some ops[i] := by simp [hi]
          have : i ∈ Region.ready .any ops listed := mem_ready.2 ⟨getD_in (by rw [inv.size]; exact hi) hl, _, ho, fun x hx hb => by
            have := (lowB_spec hlow ho).1 x hx hb
            exact ih _ this (by omega)⟩
          rw [hr] at this
          cases this
    refine hQ e a w (fun t x hx => ?_) inv.beh (ends_of (fun i hi => inv.sub i (hl i hi)) htr hns hT)
    rcases inv.env t x hx with ⟨j, oj, _, ho, hd, rfl⟩ | ⟨hno, h0⟩
    · exact inv.done j oj t ho (hl j (Array.getElem?_eq_some_iff.1 ho).1) hd
    · rw [inv.rest t fun j oj ho hl => hno j oj (inv.sub j hl) ho]
      exact h0
  · cases t with
    | seg s t2 => exact key inv0 htree h
    | _ => simp [isSeg] at hseg

/-! ### Propositions of n values and a world -/
def Fn : Nat → Type
  | 0 => World → Prop
  | n + 1 => Value → Fn n

def app : (n : Nat) → Fn n → List Value → World → Prop
  | 0, f, _, w => f w
  | n + 1, f, v :: vs, w => app n (f v) vs w
  | _ + 1, _, [], _ => False

def abs : (n : Nat) → (List Value → World → Prop) → Fn n
  | 0, f => fun w => f [] w
  | n + 1, f => fun v => abs n fun vs => f (v :: vs)

def LeFn : (n : Nat) → Fn n → Fn n → Prop
  | 0, f, g => ∀ w, f w → g w
  | n + 1, f, g => ∀ v, LeFn n (f v) (g v)

theorem LeFn.app : ∀ {n : Nat} {f g : Fn n}, LeFn n f g → ∀ vs w, app n f vs w → app n g vs w
  | 0, _, _, h, _, w, hf => h w hf
  | _ + 1, _, _, h, v :: vs, w, hf => LeFn.app (h v) vs w hf
  | _ + 1, _, _, _, [], _, hf => hf.elim

theorem app_abs : ∀ (n : Nat) (f : List Value → World → Prop) (vs : List Value) (w : World), vs.length = n → (app n (abs n f) vs w ↔ f vs w)
  | 0, f, [], w, _ => Iff.rfl
  | n + 1, f, v :: vs, w, h => app_abs n (fun vs => f (v :: vs)) vs w (by simpa using h)

theorem app_length : ∀ {n : Nat} {f : Fn n} {vs : List Value} {w : World}, app n f vs w → n ≤ vs.length
  | 0, _, _, _, _ => Nat.zero_le _
  | n + 1, f, v :: vs, w, h => by have := app_length (n := n) (f := f v) h; simp; omega
  | _ + 1, _, [], _, h => h.elim

/-- Ways that meet: what holds where they meet is yours to choose. -/
def joinK (n : Nat) (body : Fn n → Prop) (after : Fn n) : Prop := ∃ M : Fn n, body M ∧ LeFn n M after

/-- A loop: its relation, with a number that every round lowers, is yours to choose. -/
def loopK (n : Nat) (body : Fn n → Fn n) : Fn n :=
  abs n fun vs w => ∃ (I : Nat → Fn n) (m : Nat), app n (I m) vs w ∧ ∀ m, LeFn n (I m) (body (abs n fun vs' w' => ∃ m', m' < m ∧ app n (I m') vs' w'))

/-! ### The code -/
inductive Ann where
  | no
  | draw (still : Nat)
  | seq (join : Option (List Nat)) (a b : Ann)
  | cut (keep : List Nat) (a b : Ann)
  | raw (slots : List Nat)
  | bars (ms : List Nat)
  | tree (join : Option (List Nat)) (t : Tr)
  | two (a b : Ann)
  | one (a : Ann)
  | loop (slots : List Nat) (a : Ann)

structure Ks where
  norm : Env → World → Prop
  ret : Env → World → Prop
  exits : List (Nat × (Env → World → Prop))

def Ks.exit : List (Nat × (Env → World → Prop)) → Nat → Env → World → Prop
  | [], _ => fun _ _ => False
  | (i, k) :: l, id => match Nat.beq i id with
    | true => k
    | false => Ks.exit l id

def Ks.at (k : Ks) : Exit → Env → World → Prop
  | .normal => k.norm
  | .ret => k.ret
  | .exit id => Ks.exit k.exits id
  | _ => fun _ _ => False

def writes : Code → List Nat
  | .region _ ops _ => dsts ops.toList
  | .seq a b => writes a ++ writes b
  | .cond _ a b => writes a ++ writes b
  | .block _ b => writes b
  | .loop b => writes b
  | .rangeFunc _ ps x y => ps.toList ++ writes x ++ writes y
  | _ => []

/-- What is known but for what is written. -/
def Env.less (ws : List Nat) : List (Nat × Value) → List (Nat × Value)
  | [] => []
  | (t, v) :: e => match elemB t ws with
    | true => Env.less ws e
    | false => (t, v) :: Env.less ws e

/-- The same, worked out before one goes on. -/
def keepC (ks : List Nat) : List (Nat × Value) → (List (Nat × Value) → Prop) → Prop
  | [], k => k []
  | (t, v) :: e, k => match elemB t ks with
    | true => keepC ks e fun e' => k ((t, v) :: e')
    | false => keepC ks e k

theorem keepC_eq (ks : List Nat) : ∀ (e : List (Nat × Value)) (k : List (Nat × Value) → Prop), keepC ks e k = k (Env.keep ks e)
  | [], k => rfl
  | (t, v) :: e, k => by
    unfold keepC Env.keep
    cases elemB t ks
    · exact keepC_eq ks e k
    · exact keepC_eq ks e _

def Env.bind : List Nat → List Value → List (Nat × Value) → List (Nat × Value)
  | t :: ts, v :: vs, e => (t, v) :: Env.bind ts vs e
  | _, _, e => e

noncomputable def Env.vals (e : List (Nat × Value)) : List Nat → Option (List Value)
  | [] => some []
  | t :: ts => match Env.get e t with
    | some v => match Env.vals e ts with
      | some vs => some (v :: vs)
      | none => none
    | none => none

def goTo (n : Nat) (M : Fn n) (slots : List Nat) (e : Env) (w : World) : Prop := match Env.vals e slots with
  | some vs => app n M vs w
  | none => False

/-- A piece of code whose law is proved by hand: what it leaves in some temporaries, and the world. -/
def rawK (P : Program) (nt : Nat) (c : Code) (e : List (Nat × Value)) (w : World) (slots : List Nat) (M : Fn slots.length) : Prop :=
  ∀ a : Act, Agrees e a → a.tmps.size = nt → c.wp P (fun ex a' w' => ex = .normal ∧ Beh (writes c) a a' ∧ ∃ vs : List Value, vs.length = slots.length ∧ Agrees (Env.bind slots vs []) a' ∧ app slots.length M vs w') a w

def W (P : Program) (nt : Nat) : Code → Ann → Ks → Env → World → Prop
  | .skip, _, k => fun e w => k.norm e w
  | .region _ ops false, _, k => fun e w => Wops P nt ops.toList k.norm ops.toList e w
  | .region _ ops true, .draw n, k => fun e w =>
      match Nat.beq n ops.size with
      | true => match Region.lexB .any ops with
        | true => Sops P nt ops.toList w.drew (fun e' => k.norm e' w.drew) ops.toList e
        | false => False
      | false => match Region.lexTailB .any ops n with
        | true => Sops P nt ops.toList w.drew (fun e' => Wops P nt ops.toList k.norm (ops.toList.drop n) e' w.drew) (ops.toList.take n) e
        | false => False
  | .region _ ops true, .bars ms, k => fun e w =>
      match Region.noSelect ops && lowB ops && barsB ops ms 0 with
      | true => Mops P nt ops.toList k.norm ms 0 e w.drew
      | false => False
  | .region _ ops true, .tree none t, k => fun e w =>
      match treeB ops t with
      | true => Tops P nt ops.toList k.norm t [] e w.drew
      | false => False
  | .region _ ops true, .tree (some slots) t, k => fun e w =>
      match treeB ops t with
      | true => joinK slots.length (fun M => Tops P nt ops.toList (goTo slots.length M slots) t [] e w.drew)
          (abs slots.length fun vs w' => k.norm (Env.bind slots vs (Env.less (dsts ops.toList) e)) w')
      | false => False
  | .region id ops true, .raw slots, k => fun e w =>
      rawK P nt (.region id ops true) e w slots (abs slots.length fun vs w' => k.norm (Env.bind slots vs (Env.less (dsts ops.toList) e)) w')
  | .rangeFunc f ps x y, .raw slots, k => fun e w =>
      rawK P nt (.rangeFunc f ps x y) e w slots (abs slots.length fun vs w' => k.norm (Env.bind slots vs (Env.less (ps.toList ++ writes x ++ writes y) e)) w')
  | .seq x y, .cut keep ax ay, k => fun e w => W P nt x ax { k with norm := fun e' w' => keepC keep e' fun e2 => W P nt y ay k e2 w' } e w
  | .seq x y, .seq none ax ay, k => fun e w => W P nt x ax { k with norm := W P nt y ay k } e w
  | .seq x y, .seq (some slots) ax ay, k => fun e w =>
      joinK slots.length (fun M => W P nt x ax { k with norm := goTo slots.length M slots } e w)
        (abs slots.length fun vs w' => W P nt y ay k (Env.bind slots vs (Env.less (writes x) e)) w')
  | .cond c x y, .two ax ay, k => fun e w => match e.known c with
      | true => boolK (bare (e.sub c)) (W P nt x ax k e w) (W P nt y ay k e w)
      | false => False
  | .block id x, .one a, k => fun e w => W P nt x a { k with exits := (id, k.norm) :: k.exits } e w
  | .exit id, _, k => fun e w => Ks.exit k.exits id e w
  | .ret, _, k => fun e w => k.ret e w
  | .loop x, .loop slots a, k => fun e w =>
      goTo slots.length (loopK slots.length fun next => abs slots.length fun vs w' =>
        W P nt x a { k with norm := goTo slots.length next slots } (Env.bind slots vs (Env.less (writes x) e)) w') slots e w
  | _, _, _ => fun _ _ => False

theorem less_get (ws : List Nat) : ∀ (e : List (Nat × Value)) (t : Nat) (v : Value), Env.get (Env.less ws e) t = some v → Env.get e t = some v ∧ t ∉ ws
  | [], t, v, h => by simp [Env.less, Env.get_nil] at h
  | (s, u) :: e, t, v, h => by
    unfold Env.less at h
    split at h
    · rename_i hs
      have ih := less_get ws e t v h
      refine ⟨?_, ih.2⟩
      rw [Env.get_cons]
      by_cases e1 : s = t
      · subst e1; exact absurd ((elemB_spec s ws).1 hs) ih.2
      · have : Nat.beq s t = false := beq_false e1
        rw [this]; exact ih.1
    · rename_i hs
      rw [Env.get_cons] at h ⊢
      by_cases e1 : s = t
      · subst e1
        have hb : Nat.beq s s = true := by simp
        rw [hb] at h ⊢
        exact ⟨h, fun hh => by rw [(elemB_spec s ws).2 hh] at hs; cases hs⟩
      · have : Nat.beq s t = false := beq_false e1
        rw [this] at h ⊢
        exact less_get ws e t v h

theorem Agrees.less {e : Env} {a a' : Act} (h : Agrees e a) {ws : List Nat} (hB : Beh ws a a') : Agrees (Env.less ws e) a' := fun t v hv => by
  obtain ⟨h1, h2⟩ := less_get ws e t v hv
  rw [hB.keep t h2]
  exact h t v h1

theorem keep_get (ks : List Nat) : ∀ (e : List (Nat × Value)) (t : Nat) (v : Value), Env.get (Env.keep ks e) t = some v → Env.get e t = some v ∧ t ∈ ks
  | [], t, v, h => by simp [Env.keep, Env.get_nil] at h
  | (s, u) :: e, t, v, h => by
    unfold Env.keep at h
    split at h
    · rename_i hs
      rw [Env.get_cons] at h ⊢
      by_cases e1 : s = t
      · subst e1
        have hb : Nat.beq s s = true := by simp
        rw [hb] at h ⊢
        exact ⟨h, (elemB_spec s ks).1 hs⟩
      · have : Nat.beq s t = false := beq_false e1
        rw [this] at h ⊢
        exact keep_get ks e t v h
    · rename_i hs
      have ih := keep_get ks e t v h
      refine ⟨?_, ih.2⟩
      rw [Env.get_cons]
      by_cases e1 : s = t
      · subst e1; rw [(elemB_spec s ks).2 ih.2] at hs; cases hs
      · have : Nat.beq s t = false := beq_false e1
        rw [this]; exact ih.1

theorem Agrees.keep {e : Env} {a : Act} (h : Agrees e a) (ks : List Nat) : Agrees (Env.keep ks e) a := fun t v hv => h t v (keep_get ks e t v hv).1

theorem bind_agrees {e0 : Env} {a : Act} (h0 : Agrees e0 a) : ∀ (slots : List Nat) (vs : List Value), Agrees (Env.bind slots vs []) a → Agrees (Env.bind slots vs e0) a
  | [], vs, _ => by cases vs <;> exact h0
  | t :: ts, [], _ => h0
  | t :: ts, v :: vs, h => by
    intro u x hx
    simp only [Env.bind] at h hx
    have h' : Agrees (Env.bind ts vs []) a ∨ True := .inr trivial
    rw [Env.get_cons] at hx
    by_cases e1 : t = u
    · subst e1
      have hb : Nat.beq t t = true := by simp
      rw [hb] at hx
      exact h t x (by rw [Env.get_cons, hb]; exact hx)
    · have hb : Nat.beq t u = false := beq_false e1
      rw [hb] at hx
      -- a slot that is bound twice: the first one counts
      have key : ∀ (ts : List Nat) (vs : List Value) (x : Value), (∀ y, Env.get (Env.bind ts vs []) u = some y → a.tmps[u]? = some y) → Env.get (Env.bind ts vs e0) u = some x → a.tmps[u]? = some x := by
        intro ts
        induction ts with
        | nil => intro vs x _ hx; cases vs <;> exact h0 u x hx
        | cons s ts ih =>
          intro vs x hk hx
          cases vs with
          | nil => exact h0 u x hx
          | cons v vs =>
            simp only [Env.bind] at hk hx
            rw [Env.get_cons] at hx
            by_cases e2 : s = u
            · subst e2
              have hb2 : Nat.beq s s = true := by simp
              rw [hb2] at hx
              exact hk x (by rw [Env.get_cons, hb2]; exact hx)
            · have hb2 : Nat.beq s u = false := beq_false e2
              rw [hb2] at hx
              exact ih vs x (fun y hy => hk y (by rw [Env.get_cons, hb2]; exact hy)) hx
      exact key ts vs x (fun y hy => h u y (by rw [Env.get_cons, hb]; exact hy)) hx

theorem vals_bind {e0 : Env} {a : Act} (h0 : Agrees e0 a) : ∀ {slots : List Nat} {vs : List Value} {e' : Env}, Agrees e' a → Env.vals e' slots = some vs → Agrees (Env.bind slots vs e0) a ∧ vs.length = slots.length
  | [], vs, e', _, hv => by simp [Env.vals] at hv; subst hv; exact ⟨h0, rfl⟩
  | t :: ts, vs, e', hA, hv => by
    simp only [Env.vals] at hv
    split at hv
    · rename_i v hv1
      split at hv
      · rename_i vs' hv2
        simp at hv; subst hv
        obtain ⟨ih, hl⟩ := vals_bind h0 hA hv2
        refine ⟨?_, by simp [hl]⟩
        intro s u hu
        simp only [Env.bind, Env.get_cons] at hu
        by_cases e1 : t = s
        · subst e1
          simp at hu; subst hu
          exact hA t v hv1
        · have : Nat.beq t s = false := beq_false e1
          rw [this] at hu
          exact ih s u hu
      · cases hv
    · cases hv

/-- A loop, by a number of one's own that every round lowers. -/
theorem wp_loop_num {P : Program} {Q : Exit → Act → World → Prop} {c : Code} (I : Nat → Act → World → Prop) (m : Nat) {a : Act} {w : World} (h₀ : I m a w)
    (round : ∀ n a w, I n a w → c.wp P (Exit.then (fun a' w' => ∃ n', n' < n ∧ I n' a' w') Q) a w) : (Code.loop c).wp P Q a w := by
  intro b k cs
  have key : ∀ n a w, I n a w →
      ∃ e a' w', Q e a' w' ∧ Arrives P (lone (b.at a (.code c :: .inLoop c :: k)) cs w) b k cs e a' w' := by
    intro n
    induction n using Nat.strongRecOn with
    | _ n ih =>
      intro a w hI
      obtain ⟨e, a₁, w₁, hq, harr⟩ := round n a w hI b (.inLoop c :: k) cs
      cases e with
      | normal =>
        obtain ⟨n', hlt, hI₁⟩ := hq
        obtain ⟨e₂, a₂, w₂, hq₂, harr₂⟩ := ih n' hlt a₁ w₁ hI₁
        exact ⟨e₂, a₂, w₂, hq₂, .of_steps (Steps.trans harr (.one step_inLoop)) harr₂⟩
      | exit id => exact ⟨_, a₁, w₁, hq, .pass (x := .inLoop c) rfl (fun _ _ => .inl (by simp)) harr⟩
      | goto l => exact ⟨_, a₁, w₁, hq, .pass (x := .inLoop c) rfl (fun _ _ => .inl (by simp)) harr⟩
      | ret => exact ⟨_, a₁, w₁, hq, .pass (x := .inLoop c) rfl (fun _ _ => .inl (by simp)) harr⟩
      | panic ch => exact ⟨_, a₁, w₁, hq, .pass (x := .inLoop c) rfl (fun _ _ => .inl (by simp)) harr⟩
      | outgrown => exact ⟨_, a₁, w₁, hq, .pass (x := .inLoop c) rfl (fun _ _ => .inl (by simp)) harr⟩
  obtain ⟨e, a', w', hq, harr⟩ := key m a w h₀
  exact ⟨e, a', w', hq, .of_steps (.one step_loop) harr⟩

theorem W_sound {P : Program} (hm : P.follows .mixedOrders = true) : ∀ (c : Code) (ann : Ann) (k : Ks) (e : Env) (w : World) (a : Act), Agrees e a → W P a.tmps.size c ann k e w →
    c.wp P (fun ex a' w' => Beh (writes c) a a' ∧ ∃ e', Agrees e' a' ∧ k.at ex e' w') a w
  | .skip, _, k, e, w, a, hA, h => wp_skip ⟨Beh.refl _ _, e, hA, by simp only [W] at h; exact h⟩
  | .region id ops false, _, k, e, w, a, hA, h => by
    simp only [W] at h
    refine wp_region_list ?_
    have := Wops_sound (P := P) ops.toList k.norm (dsts ops.toList) a (fun ex a' w' => Beh (writes (.region id ops false)) a a' ∧ ∃ e', Agrees e' a' ∧ k.at ex e' w')
      (fun e' a' w' hA' hB' hk => ⟨hB', e', hA', hk⟩) ops.toList (fun t ht => ht) e a w hA (Beh.refl _ _) h
    simpa using this
  | .region id ops true, ann, k, e, w, a, hA, h => by
    cases ann with
    | draw n =>
      simp only [W] at h
      split at h
      · split at h
        case h_2 => exact h.elim
        rename_i hB
        refine wp_region_still hm hB ?_
        have := Sops_sound (P := P) ops.toList w.drew (fun e' => k.norm e' w.drew) (dsts ops.toList) a (fun a' => Beh (writes (.region id ops true)) a a' ∧ ∃ e', Agrees e' a' ∧ k.norm e' w.drew)
          (fun e' a' hA' hB' hk => ⟨hB', e', hA', hk⟩) ops.toList (fun t ht => ht) e a hA (Beh.refl _ _) h
        simp only [Array.toArray_toList] at this
        exact this
      · split at h
        case h_2 => exact h.elim
        rename_i hB
        have hlit : (Code.region id ops.toList.toArray true).wp P (fun ex a' w' => Beh (writes (.region id ops true)) a a' ∧ ∃ e', Agrees e' a' ∧ k.at ex e' w') a w := by
          refine wp_region_still_tail n hm (by simpa using hB) ?_
          refine Sops_sound (P := P) ops.toList w.drew (fun e' => Wops P a.tmps.size ops.toList k.norm (ops.toList.drop n) e' w.drew) (dsts ops.toList) a _
            (fun e' a' hA' hB' hk => ?_) (ops.toList.take n) (fun t ht => ?_) e a hA (Beh.refl _ _) h
          · exact Wops_sound (P := P) ops.toList k.norm (dsts ops.toList) a _ (fun e' a' w' hA' hB' hk => ⟨hB', e', hA', hk⟩) (ops.toList.drop n) (fun t ht => by
              unfold dsts at ht ⊢
              exact ((List.drop_sublist n ops.toList).filterMap _).subset ht) e' a' w.drew hA' hB' hk
          · unfold dsts at ht ⊢
            exact ((List.take_sublist n ops.toList).filterMap _).subset ht
        simpa using hlit
    | bars ms =>
      simp only [W] at h
      split at h
      case h_2 => exact h.elim
      rename_i hB
      simp only [Bool.and_eq_true] at hB
      refine wp_region_any hm ?_
      have := Mops_sound (P := P) ops.toList k.norm a (fun ex a' w' => Beh (writes (.region id ops true)) a a' ∧ ∃ e', Agrees e' a' ∧ k.at ex e' w') (by simp) hB.1.1 hB.1.2
        (fun e' a' w' hA' hB' hk => ⟨hB', e', hA', hk⟩) ms 0 e a w.drew hA (Beh.refl _ _) hB.2 h
      rw [fillTo_zero] at this
      exact this
    | tree join t =>
      cases join with
      | none =>
        simp only [W] at h
        split at h
        case h_2 => exact h.elim
        rename_i hB
        exact tree_sound hm a e w k.norm _ t hB hA h fun e' a' w' hA' hB' hk => ⟨hB', e', hA', hk⟩
      | some slots =>
        simp only [W] at h
        split at h
        case h_2 => exact h.elim
        rename_i hB
        obtain ⟨M, hM, hle⟩ := h
        refine tree_sound hm a e w _ _ t hB hA hM fun e' a' w' hA' hB' hk => ⟨hB', ?_⟩
        simp only [goTo] at hk
        split at hk
        case h_2 => exact hk.elim
        rename_i vs hvs
        obtain ⟨hA2, hl⟩ := vals_bind (hA.less (ws := dsts ops.toList) hB') hA' hvs
        exact ⟨_, hA2, (app_abs _ _ vs w' hl).1 (hle.app vs w' hk)⟩
    | raw slots =>
      simp only [W] at h
      refine Code.wp_mono ?_ (h a hA rfl)
      rintro ex a' w' ⟨rfl, hB, vs, hl, hA2, happ⟩
      exact ⟨hB, _, bind_agrees (hA.less hB) slots vs hA2, (app_abs _ _ vs w' hl).1 happ⟩
    | _ => simp only [W] at h
  | .rangeFunc f ps x y, ann, k, e, w, a, hA, h => by
    cases ann with
    | raw slots =>
      simp only [W] at h
      refine Code.wp_mono ?_ (h a hA rfl)
      rintro ex a' w' ⟨rfl, hB, vs, hl, hA2, happ⟩
      exact ⟨hB, _, bind_agrees (hA.less hB) slots vs hA2, (app_abs _ _ vs w' hl).1 happ⟩
    | _ => simp only [W] at h
  | .seq x y, ann, k, e, w, a, hA, h => by
    cases ann with
    | cut keep ax ay =>
      simp only [W] at h
      refine wp_seq (Code.wp_mono ?_ (W_sound hm x ax _ e w a hA h))
      rintro ex a' w' ⟨hB, e', hA', hk⟩
      have hB' : Beh (writes (.seq x y)) a a' := hB.mono fun t ht => List.mem_append_left _ ht
      cases ex with
      | normal =>
        have hk' : W P a'.tmps.size y ay k (Env.keep keep e') w' := by
          rw [hB.size]
          have hk2 : keepC keep e' (fun e2 => W P a.tmps.size y ay k e2 w') := hk
          rw [keepC_eq] at hk2
          exact hk2
        refine Code.wp_mono ?_ (W_sound hm y ay k _ w' a' (hA'.keep keep) hk')
        rintro ex a2 w2 ⟨hB2, h2⟩
        exact ⟨hB'.trans (hB2.mono fun t ht => List.mem_append_right _ ht), h2⟩
      | exit id => exact ⟨hB', e', hA', hk⟩
      | goto l => exact hk.elim
      | ret => exact ⟨hB', e', hA', hk⟩
      | panic ch => exact hk.elim
      | outgrown => exact hk.elim
    | seq join ax ay =>
      cases join with
      | none =>
        simp only [W] at h
        refine wp_seq (Code.wp_mono ?_ (W_sound hm x ax _ e w a hA h))
        rintro ex a' w' ⟨hB, e', hA', hk⟩
        have hB' : Beh (writes (.seq x y)) a a' := hB.mono fun t ht => List.mem_append_left _ ht
        cases ex with
        | normal =>
          have hk' : W P a'.tmps.size y ay k e' w' := by rw [hB.size]; exact hk
          refine Code.wp_mono ?_ (W_sound hm y ay k e' w' a' hA' hk')
          rintro ex a2 w2 ⟨hB2, h2⟩
          exact ⟨hB'.trans (hB2.mono fun t ht => List.mem_append_right _ ht), h2⟩
        | exit id => exact ⟨hB', e', hA', hk⟩
        | goto l => exact hk.elim
        | ret => exact ⟨hB', e', hA', hk⟩
        | panic ch => exact hk.elim
        | outgrown => exact hk.elim
      | some slots =>
        simp only [W] at h
        obtain ⟨M, hM, hle⟩ := h
        refine wp_seq (Code.wp_mono ?_ (W_sound hm x ax _ e w a hA hM))
        rintro ex a' w' ⟨hB, e', hA', hk⟩
        have hB' : Beh (writes (.seq x y)) a a' := hB.mono fun t ht => List.mem_append_left _ ht
        cases ex with
        | normal =>
          simp only [Ks.at, goTo] at hk
          split at hk
          case h_2 => exact hk.elim
          rename_i vs hvs
          obtain ⟨hA2, hl⟩ := vals_bind (hA.less hB) hA' hvs
          have hk2 := (app_abs _ _ vs w' hl).1 (hle.app vs w' hk)
          have hk' : W P a'.tmps.size y ay k (Env.bind slots vs (Env.less (writes x) e)) w' := by rw [hB.size]; exact hk2
          refine Code.wp_mono ?_ (W_sound hm y ay k _ w' a' hA2 hk')
          rintro ex a2 w2 ⟨hB2, h2⟩
          exact ⟨hB'.trans (hB2.mono fun t ht => List.mem_append_right _ ht), h2⟩
        | exit id => exact ⟨hB', e', hA', hk⟩
        | goto l => exact hk.elim
        | ret => exact ⟨hB', e', hA', hk⟩
        | panic ch => exact hk.elim
        | outgrown => exact hk.elim
    | _ => simp only [W] at h
  | .cond c x y, ann, k, e, w, a, hA, h => by
    cases ann with
    | two ax ay =>
      simp only [W] at h
      split at h
      case h_2 => exact h.elim
      rename_i hk
      unfold boolK at h
      split at h
      case h_2 => exact h.elim
      rename_i b hb
      refine wp_cond (t := b) ((hA.eval hk).trans hb) ?_
      cases b with
      | true =>
        simp only [if_true] at h ⊢
        refine Code.wp_mono ?_ (W_sound hm x ax k e w a hA h)
        rintro ex a' w' ⟨hB, h2⟩
        exact ⟨hB.mono fun t ht => List.mem_append_left _ ht, h2⟩
      | false =>
        simp only [Bool.false_eq_true, if_false] at h ⊢
        refine Code.wp_mono ?_ (W_sound hm y ay k e w a hA h)
        rintro ex a' w' ⟨hB, h2⟩
        exact ⟨hB.mono fun t ht => List.mem_append_right _ ht, h2⟩
    | _ => simp only [W] at h
  | .block id x, ann, k, e, w, a, hA, h => by
    cases ann with
    | one ax =>
      simp only [W] at h
      refine wp_block (Code.wp_mono ?_ (W_sound hm x ax _ e w a hA h))
      rintro ex a' w' ⟨hB, e', hA', hk⟩
      cases ex with
      | exit id' =>
        simp only [Ks.at, Ks.exit] at hk
        by_cases hid : id' = id
        · subst hid
          have hb : Nat.beq id' id' = true := by simp
          rw [hb] at hk
          simp only [Exit.inBlock, if_true]
          exact ⟨hB, e', hA', hk⟩
        · have hb : Nat.beq id id' = false := beq_false fun hh => hid hh.symm
          rw [hb] at hk
          simp only [Exit.inBlock, hid, if_false]
          exact ⟨hB, e', hA', hk⟩
      | normal => exact ⟨hB, e', hA', hk⟩
      | goto l => exact hk.elim
      | ret => exact ⟨hB, e', hA', hk⟩
      | panic ch => exact hk.elim
      | outgrown => exact hk.elim
    | _ => simp only [W] at h
  | .exit id, _, k, e, w, a, hA, h => wp_exit ⟨Beh.refl _ _, e, hA, by simp only [W] at h; exact h⟩
  | .ret, _, k, e, w, a, hA, h => wp_ret ⟨Beh.refl _ _, e, hA, by simp only [W] at h; exact h⟩
  | .loop x, ann, k, e, w, a, hA, h => by
    cases ann with
    | loop slots ax =>
      simp only [W, goTo] at h
      split at h
      case h_2 => exact h.elim
      rename_i vs0 hvs0
      have hl0 := (vals_bind (hA.less (Beh.refl (writes x) a)) hA hvs0).2
      unfold loopK at h
      obtain ⟨I, m0, hI0, hround⟩ := (app_abs _ _ vs0 w hl0).1 h
      -- the relation on acts: it agrees, and the slots' values stand in I at the number
      have key : ∀ m a1 w1, (Beh (writes x) a a1 ∧ ∃ vs, Agrees (Env.bind slots vs (Env.less (writes x) e)) a1 ∧ vs.length = slots.length ∧ app slots.length (I m) vs w1) →
          (Code.loop x).wp P (fun ex a' w' => Beh (writes (.loop x)) a a' ∧ ∃ e', Agrees e' a' ∧ k.at ex e' w') a1 w1 := by
        intro m a1 w1 h1
        refine wp_loop_num (fun n a1 w1 => Beh (writes x) a a1 ∧ ∃ vs, Agrees (Env.bind slots vs (Env.less (writes x) e)) a1 ∧ vs.length = slots.length ∧ app slots.length (I n) vs w1) m h1 ?_
        rintro n a1 w1 ⟨hB1, vs, hA1, hl, hI⟩
        have h2 := (app_abs _ _ vs w1 hl).1 ((hround n).app vs w1 hI)
        have h2' : W P a1.tmps.size x ax { k with norm := goTo slots.length (abs slots.length fun vs' w' => ∃ m', m' < n ∧ app slots.length (I m') vs' w') slots } (Env.bind slots vs (Env.less (writes x) e)) w1 := by
          rw [hB1.size]; exact h2
        refine Code.wp_mono ?_ (W_sound hm x ax _ _ w1 a1 hA1 h2')
        rintro ex a' w' ⟨hB2, e', hA', hk⟩
        have hB3 : Beh (writes x) a a' := hB1.trans hB2
        cases ex with
        | normal =>
          simp only [Ks.at, goTo] at hk
          split at hk
          case h_2 => exact hk.elim
          rename_i vs' hvs'
          obtain ⟨hA4, hl4⟩ := vals_bind (hA.less hB3) hA' hvs'
          obtain ⟨m', hm', hI'⟩ := (app_abs _ _ vs' w' hl4).1 hk
          exact ⟨m', hm', hB3, vs', hA4, hl4, hI'⟩
        | exit id => exact ⟨hB3, e', hA', hk⟩
        | goto l => exact hk.elim
        | ret => exact ⟨hB3, e', hA', hk⟩
        | panic ch => exact hk.elim
        | outgrown => exact hk.elim
      refine key m0 a w ⟨Beh.refl _ _, vs0, ?_, hl0, hI0⟩
      exact (vals_bind (hA.less (Beh.refl (writes x) a)) hA hvs0).1
    | _ => simp only [W] at h
  | .scope .., _, _, _, _, _, _, h => by simp only [W] at h
  | .label .., _, _, _, _, _, _, h => by simp only [W] at h
  | .goto .., _, _, _, _, _, _, h => by simp only [W] at h
  | .refuse .., _, _, _, _, _, _, h => by simp only [W] at h

/-! ### A call -/
/-- The results, where all lie in temporaries. -/
def tmps : List ResultVar → Option (List Nat)
  | [] => some []
  | .tmp t :: l => match tmps l with
    | some ts => some (t :: ts)
    | none => none
  | .cell _ _ :: _ => none

/-- One value is handed back as it is, several as a tuple. -/
def pack : List Value → Value
  | [v] => v
  | vs => .tuple vs.toArray

/-- Results of which some lie in cells: each a value, or a place and its type. -/
def resSem : List (Value × Option TypeId) → Sem (List Value)
  | [] => pure []
  | (v, none) :: l => do pure (v :: (← resSem l))
  | (a, some t) :: l => do
    let v ← loadVar t (← asAddr a)
    pure (v :: (← resSem l))

def resK (P : Program) (l : List (Value × Option TypeId)) (w : World) (R : Value → World → Prop) : Prop :=
  ∃ vs, (resSem l).run P w = .ok vs w ∧ R (pack vs) w

noncomputable def resVals (e : Env) : List ResultVar → Option (List (Value × Option TypeId))
  | [] => some []
  | .tmp t :: l => match Env.get e t, resVals e l with
    | some v, some vs => some ((v, none) :: vs)
    | _, _ => none
  | .cell a t :: l => match Env.get e a, resVals e l with
    | some v, some vs => some ((v, some t) :: vs)
    | _, _ => none

def retK (P : Program) (rs : List ResultVar) (R : Value → World → Prop) (e : Env) (w : World) : Prop := match tmps rs with
  | some ts => match Env.vals e ts with
    | some vs => R (pack vs) w
    | none => False
  | none => match resVals e rs with
    | some l => resK P l w R
    | none => False

def resOne (a : Array Value) : ResultVar → Sem Value
  | .tmp t => pure (a.getD t undef)
  | .cell b t => do loadVar t (← asAddr (a.getD b undef))

theorem mapM_res {e : Env} {a : Act} (hA : Agrees e a) : ∀ (rs : List ResultVar) (l : List (Value × Option TypeId)), resVals e rs = some l → rs.mapM (resOne a.tmps) = resSem l
  | [], l, h => by simp [resVals] at h; subst h; rfl
  | .tmp t :: rs, l, h => by
    simp only [resVals] at h
    split at h
    case h_2 => cases h
    rename_i v vs h1 h2
    simp at h; subst h
    have h3 : resOne a.tmps (.tmp t) = pure v := by simp [resOne, Array.getD_eq_getD_getElem?, hA t v h1]
    rw [List.mapM_cons, mapM_res hA rs vs h2, h3, pure_bind]
    rfl
  | .cell b t :: rs, l, h => by
    simp only [resVals] at h
    split at h
    case h_2 => cases h
    rename_i v vs h1 h2
    simp at h; subst h
    have h3 : resOne a.tmps (.cell b t) = (do loadVar t (← asAddr v)) := by simp [resOne, Array.getD_eq_getD_getElem?, hA b v h1]
    rw [List.mapM_cons, mapM_res hA rs vs h2, h3]
    simp only [resSem, bind_assoc]

theorem results_eq {fn : Func} {e : Env} {a : Act} (hA : Agrees e a) {l : List (Value × Option TypeId)} (h : resVals e fn.results.toList = some l) :
    results fn a.tmps = (do let vs ← resSem l; pure (pack vs)) := by
  unfold results
  have h1 : fn.results.mapM (resOne a.tmps) = (List.toArray <$> resSem l) := by
    rw [Array.mapM_eq_mapM_toList, mapM_res hA _ _ h]
  have h2 : (do
      let vs ← fn.results.mapM (resOne a.tmps)
      pure (if h : vs.size = 1 then vs[0] else Value.tuple vs)) = (do let vs ← resSem l; pure (pack vs)) := by
    rw [h1, map_eq_pure_bind, bind_assoc]
    simp only [pure_bind]
    congr 1
    funext vs
    congr 1
    match vs with
    | [] => rfl
    | [v] => rfl
    | v :: u :: vs => simp [pack]
  rw [← h2]
  rfl

theorem tmps_vals {e : Env} : ∀ (rs : List ResultVar) (ts : List Nat) (vs : List Value), tmps rs = some ts → Env.vals e ts = some vs → ∃ l, resVals e rs = some l ∧ resSem l = pure vs
  | [], ts, vs, h, h2 => by simp [tmps] at h; subst h; simp [Env.vals] at h2; subst h2; exact ⟨[], rfl, rfl⟩
  | .tmp t :: rs, ts, vs, h, h2 => by
    simp only [tmps] at h
    split at h
    case h_2 => cases h
    rename_i ts' h3
    simp at h; subst h
    simp only [Env.vals] at h2
    split at h2
    case h_2 => cases h2
    rename_i v hv
    split at h2
    case h_2 => cases h2
    rename_i vs' hvs
    simp at h2; subst h2
    obtain ⟨l, g1, g2⟩ := tmps_vals rs ts' vs' h3 hvs
    exact ⟨(v, none) :: l, by simp [resVals, hv, g1], by simp [resSem, g2]⟩
  | .cell _ _ :: _, ts, vs, h, h2 => by simp [tmps] at h

theorem retK_spec {P : Program} {fn : Func} {e : Env} {a : Act} {w : World} {R : Ending → World → Prop} (hA : Agrees e a) (h : retK P fn.results.toList (fun v w => R (.returned v) w) e w) :
    ∃ v, (results fn a.tmps).run P w = .ok v w ∧ R (.returned v) w := by
  unfold retK at h
  split at h
  · rename_i ts hts
    split at h
    case h_2 => exact h.elim
    rename_i vs hvs
    obtain ⟨l, g1, g2⟩ := tmps_vals _ ts vs hts hvs
    refine ⟨pack vs, ?_, h⟩
    rw [results_eq hA g1, g2]
    simp
  · split at h
    case h_2 => exact h.elim
    rename_i l hl
    obtain ⟨vs, h1, h2⟩ := h
    refine ⟨pack vs, ?_, h2⟩
    rw [results_eq hA hl]
    simp [h1]

/-- The arguments as they lie in the first temporaries. -/
def args0 : Nat → List Value → List (Nat × Value)
  | _, [] => []
  | n, v :: vs => (n, v) :: args0 (n + 1) vs

theorem args0_get : ∀ (n : Nat) (vs : List Value) (t : Nat) (v : Value), Env.get (args0 n vs) t = some v → n ≤ t ∧ vs[t - n]? = some v
  | n, [], t, v, h => by simp [args0, Env.get_nil] at h
  | n, u :: vs, t, v, h => by
    simp only [args0, Env.get_cons] at h
    by_cases e1 : n = t
    · subst e1
      simp at h; subst h
      simp
    · have hb : Nat.beq n t = false := beq_false e1
      rw [hb] at h
      obtain ⟨h1, h2⟩ := args0_get (n + 1) vs t v h
      refine ⟨by omega, ?_⟩
      rw [show t - n = (t - (n + 1)) + 1 by omega]
      simpa using h2

theorem calls_of_W {P : Program} (hm : P.follows .mixedOrders = true) {f : FuncId} {fn : Func} {c : Code} (hf : P.funcs[f]? = some fn) (hb : fn.body = some c) (ann : Ann) {args : List Value} {w : World} {R : Ending → World → Prop}
    (hn : Nat.ble args.length fn.ntmps = true)
    (h : W P fn.ntmps c ann ⟨retK P fn.results.toList fun v w => R (.returned v) w, retK P fn.results.toList fun v w => R (.returned v) w, []⟩ (args0 0 args) w) :
    Calls P f args.toArray w R := by
  have hn' : args.length ≤ fn.ntmps := Nat.le_of_ble_eq_true hn
  refine calls_of_wp hf hb ?_
  have hsz : (args.toArray ++ Array.replicate (fn.ntmps - args.toArray.size) undef).size = fn.ntmps := by simp; omega
  have hA : Agrees (args0 0 args) { tmps := args.toArray ++ Array.replicate (fn.ntmps - args.toArray.size) undef, defers := [] } := by
    intro t v hv
    obtain ⟨_, h2⟩ := args0_get 0 args t v hv
    simp only [Nat.sub_zero] at h2
    have ht : t < args.length := by
      rcases Nat.lt_or_ge t args.length with h | h
      · exact h
      · rw [List.getElem?_eq_none h] at h2; cases h2
    simp only [Array.getElem?_append]
    rw [if_pos (by simpa using ht)]
    simpa using h2
  have := W_sound hm c ann _ (args0 0 args) w { tmps := args.toArray ++ Array.replicate (fn.ntmps - args.toArray.size) undef, defers := [] } hA (by simp only; rw [hsz]; exact h)
  refine Code.wp_mono ?_ this
  rintro ex a' w' ⟨hB, e', hA', hk⟩
  cases ex with
  | normal => exact ⟨hB.defers, retK_spec hA' hk⟩
  | ret => exact ⟨hB.defers, retK_spec hA' hk⟩
  | exit id => exact hk.elim
  | goto l => exact hk.elim
  | panic ch => exact hk.elim
  | outgrown => exact hk.elim

end Go.Vk
