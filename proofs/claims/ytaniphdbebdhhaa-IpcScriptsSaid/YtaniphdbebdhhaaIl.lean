/-
  Ends and bells, the plain law: the program's bus and the document's agree, call for call. No model in sight. No condition.
-/
namespace Vk.Ipc

structure Msg where
  a : Int
  b : Int
  c : Int
  d : Int
  e : Int
  f : Int
def Msg.zero : Msg := ⟨0, 0, 0, 0, 0, 0⟩
def Msg.badge (x : Int) : Msg := ⟨0, 0, 0, 0, 0, x⟩
structure Wt where
  th : Int
  how : Int
  m : Msg
structure Pl where
  bell : Bool
  line : List Wt
  word : Int
/-- The program's bus, without its memory. -/
structure PB where
  places : Int → Option Pl
  wher : Int → Option Int
structure RW where
  pl : Int
  th : Int
  how : Int
  m : Msg
def RW.wt (x : RW) : Wt := ⟨x.th, x.how, x.m⟩
structure RP where
  num : Int
  bell : Bool
  word : Int
/-- The document's. -/
structure RB where
  P : List RP
  W : List RW
structure Out where
  err : Int
  peer : Int
  m : Msg
  asks : Bool
  fault : Bool
  waits : Bool

def refused (e : Int) : Out := ⟨e, -1, .zero, false, false, false⟩
def told (peer how : Int) (m : Msg) : Out := ⟨0, peer, m, decide (how = 3 ∨ how = 7), decide (how = 7), false⟩
def waiting : Out := ⟨0, -1, .zero, false, false, true⟩

def up {β : Type} (f : Int → β) (k : Int) (v : β) : Int → β := fun i => if i = k then v else f i
@[simp] theorem up_same {β : Type} (f : Int → β) (k : Int) (v : β) : up f k v k = v := by simp [up]
theorem up_other {β : Type} (f : Int → β) (k i : Int) (v : β) (h : i ≠ k) : up f k v i = f i := by simp [up, h]

/-! ### The program's calls -/
def PB.opn (S : PB) (id : Int) (bell : Bool) : Int × PB :=
  if id < 0 then (1, S) else match S.places id with
  | some _ => (7, S)
  | none => (0, { S with places := up S.places id (some ⟨bell, [], 0⟩) })
def PB.at (S : PB) (id : Int) (bell : Bool) (th : Int) : Int × Option Pl := match S.places id with
  | none => (6, none)
  | some p => if p.bell = bell then (match S.wher th with
    | some _ => (16, none)
    | none => (0, some p)) else (6, none)
def PB.wait (S : PB) (id : Int) (p : Pl) (w : Wt) : PB := ⟨up S.places id (some { p with line := p.line ++ [w] }), up S.wher w.th (some id)⟩
def PB.pop (S : PB) (id : Int) (p : Pl) (w : Wt) (l : List Wt) : PB := ⟨up S.places id (some { p with line := l }), up S.wher w.th none⟩
def PB.send (S : PB) (id th how : Int) (m : Msg) : Out × PB :=
  if how = 1 ∨ how = 2 ∨ how = 3 ∨ how = 7 then
    match S.at id false th with
    | (e, none) => (refused e, S)
    | (_, some p) => match p.line with
      | w :: l => if w.how = 4 then (told w.th how m, S.pop id p w l) else if how = 1 then (refused 17, S) else (waiting, S.wait id p ⟨th, how, m⟩)
      | [] => if how = 1 then (refused 17, S) else (waiting, S.wait id p ⟨th, how, m⟩)
  else (refused 1, S)
def PB.get (S : PB) (id th : Int) (wt : Bool) : Out × PB :=
  match S.at id false th with
  | (e, none) => (refused e, S)
  | (_, some p) => match p.line with
    | w :: l => if w.how = 4 then (if wt then (waiting, S.wait id p ⟨th, 4, .zero⟩) else (refused 17, S)) else (told w.th w.how w.m, S.pop id p w l)
    | [] => if wt then (waiting, S.wait id p ⟨th, 4, .zero⟩) else (refused 17, S)
/-- 'or' of two words is handed in: what it is is no matter of this law. -/
def PB.ring (S : PB) (bor : Int → Int → Int) (id badge : Int) : Out × PB := match S.places id with
  | none => (refused 6, S)
  | some p => if p.bell then (match p.line with
    | w :: l => (⟨0, w.th, .badge badge, false, false, false⟩, S.pop id p w l)
    | [] => (⟨0, -1, .zero, false, false, false⟩, { S with places := up S.places id (some { p with word := bor p.word badge }) })) else (refused 6, S)
def PB.hear (S : PB) (id th : Int) (wt : Bool) : Out × PB :=
  match S.at id true th with
  | (e, none) => (refused e, S)
  | (_, some p) => if p.word = 0 then (if wt then (waiting, S.wait id p ⟨th, 6, .zero⟩) else (refused 17, S))
    else (⟨0, -1, .badge p.word, false, false, false⟩, { S with places := up S.places id (some { p with word := 0 }) })
def PB.cancel (S : PB) (th : Int) : Int × PB := match S.wher th with
  | none => (16, S)
  | some id => match S.places id with
    | none => (16, S)
    | some p => (0, ⟨up S.places id (some { p with line := p.line.filter fun w => !(w.th == th) }), up S.wher th none⟩)
def PB.line (S : PB) (id : Int) : List Int × Int := match S.places id with
  | none => ([], 6)
  | some p => (p.line.map (·.th), 0)
def PB.close (S : PB) (id : Int) : (List Int × Int) × PB := match S.places id with
  | none => (([], 6), S)
  | some p => ((p.line.map (·.th), 0), ⟨up S.places id none, fun t => if t ∈ p.line.map (·.th) then none else S.wher t⟩)
def PB.where_ (S : PB) (th : Int) : Int × Int := match S.wher th with
  | none => (-1, 0)
  | some id => match S.places id with
    | none => (-1, 0)
    | some p => match p.line.find? fun w => w.th == th with
      | some w => (id, w.how)
      | none => (-1, 0)
def PB.wordOf (S : PB) (id : Int) : Int × Int := match S.places id with
  | none => (0, 6)
  | some p => if p.bell then (p.word, 0) else (0, 6)

/-! ### The document's -/
def RB.place (R : RB) (num : Int) : Option Nat := R.P.findIdx? fun p => p.num == num
def RB.waits (R : RB) (th : Int) : Option Nat := R.W.findIdx? fun x => x.th == th
def RB.first (R : RB) (num : Int) : Option Nat := R.W.findIdx? fun x => x.pl == num
def dP : RP := ⟨0, false, 0⟩
def dW : RW := ⟨0, 0, 0, .zero⟩
def RB.drop (R : RB) (i : Nat) : RB := { R with W := R.W.take i ++ R.W.drop (i + 1) }
def RB.opn (R : RB) (id : Int) (bell : Bool) : Int × RB :=
  if id < 0 then (1, R) else match R.place id with
  | some _ => (7, R)
  | none => (0, { R with P := R.P ++ [⟨id, bell, 0⟩] })
def RB.may (R : RB) (id : Int) (bell : Bool) (th : Int) : Int := match R.place id with
  | none => 6
  | some i => if (R.P.getD i dP).bell = bell then (match R.waits th with
    | some _ => 16
    | none => 0) else 6
def RB.add (R : RB) (x : RW) : RB := { R with W := R.W ++ [x] }
def RB.send (R : RB) (id th how : Int) (m : Msg) : Out × RB :=
  if how = 1 ∨ how = 2 ∨ how = 3 ∨ how = 7 then
    if R.may id false th = 0 then
      match R.first id with
      | some i => if (R.W.getD i dW).how = 4 then (told (R.W.getD i dW).th how m, R.drop i) else if how = 1 then (refused 17, R) else (waiting, R.add ⟨id, th, how, m⟩)
      | none => if how = 1 then (refused 17, R) else (waiting, R.add ⟨id, th, how, m⟩)
    else (refused (R.may id false th), R)
  else (refused 1, R)
def RB.get (R : RB) (id th : Int) (wt : Bool) : Out × RB :=
  if R.may id false th = 0 then
    match R.first id with
    | some i => if (R.W.getD i dW).how = 4 then (if wt then (waiting, R.add ⟨id, th, 4, .zero⟩) else (refused 17, R)) else (told (R.W.getD i dW).th (R.W.getD i dW).how (R.W.getD i dW).m, R.drop i)
    | none => if wt then (waiting, R.add ⟨id, th, 4, .zero⟩) else (refused 17, R)
  else (refused (R.may id false th), R)
def RB.setWord (R : RB) (i : Nat) (x : Int) : RB := { R with P := R.P.modify i fun p => { p with word := x } }
def RB.ring (R : RB) (bor : Int → Int → Int) (id badge : Int) : Out × RB := match R.place id with
  | none => (refused 6, R)
  | some k => if (R.P.getD k dP).bell then (match R.first id with
    | some i => (⟨0, (R.W.getD i dW).th, .badge badge, false, false, false⟩, R.drop i)
    | none => (⟨0, -1, .zero, false, false, false⟩, R.setWord k (bor (R.P.getD k dP).word badge))) else (refused 6, R)
def RB.hear (R : RB) (id th : Int) (wt : Bool) : Out × RB :=
  if R.may id true th = 0 then
    match R.place id with
    | none => (refused 6, R)
    | some k => if (R.P.getD k dP).word = 0 then (if wt then (waiting, R.add ⟨id, th, 6, .zero⟩) else (refused 17, R))
      else (⟨0, -1, .badge (R.P.getD k dP).word, false, false, false⟩, R.setWord k 0)
  else (refused (R.may id true th), R)
def RB.cancel (R : RB) (th : Int) : Int × RB := match R.waits th with
  | none => (16, R)
  | some i => (0, R.drop i)
def RB.line (R : RB) (id : Int) : List Int × Int := match R.place id with
  | none => ([], 6)
  | some _ => ((R.W.filter fun x => x.pl == id).map (·.th), 0)
def cancels (R : RB) : List Int → RB
  | [] => R
  | t :: l => cancels (R.cancel t).2 l
def RB.close (R : RB) (id : Int) : (List Int × Int) × RB := match R.place id with
  | none => (([], 6), R)
  | some i => (R.line id, { cancels R (R.line id).1 with P := R.P.take i ++ R.P.drop (i + 1) })
def RB.where_ (R : RB) (th : Int) : Int × Int := match R.waits th with
  | none => (-1, 0)
  | some i => ((R.W.getD i dW).pl, (R.W.getD i dW).how)
def RB.wordOf (R : RB) (id : Int) : Int × Int := match R.place id with
  | none => (0, 6)
  | some i => if (R.P.getD i dP).bell then ((R.P.getD i dP).word, 0) else (0, 6)

/-! ### They agree -/
structure Sim (S : PB) (R : RB) : Prop where
  pn : (R.P.map (·.num)).Nodup
  wn : (R.W.map (·.th)).Nodup
  wp : ∀ x ∈ R.W, ∃ p ∈ R.P, p.num = x.pl
  pl : ∀ id, S.places id = (R.P.find? fun p => p.num == id).map fun p => ⟨p.bell, (R.W.filter fun x => x.pl == id).map RW.wt, p.word⟩
  wh : ∀ t, S.wher t = (R.W.find? fun x => x.th == t).map (·.pl)

theorem Sim.start : Sim ⟨fun _ => none, fun _ => none⟩ ⟨[], []⟩ := ⟨by simp, by simp, by simp, fun _ => rfl, fun _ => rfl⟩

theorem find_filter {α : Type} (f g : α → Bool) : ∀ (W : List α), (W.filter f).find? g = W.find? fun x => f x && g x
  | [] => rfl
  | a :: l => by
    rw [List.filter_cons, List.find?_cons]
    cases hf : f a with
    | true =>
      simp only [if_true, List.find?_cons, Bool.true_and, find_filter f g l]
    | false => simp only [Bool.false_eq_true, if_false, Bool.false_and, find_filter f g l]

theorem find_idx {α : Type} (p : α → Bool) : ∀ (l : List α), (l.findIdx? p = none ∧ l.find? p = none) ∨ ∃ i, ∃ hi : i < l.length, l.findIdx? p = some i ∧ l.find? p = some l[i] ∧ p l[i] = true ∧ ∀ j, ∀ hj : j < l.length, j < i → p l[j] = false
  | [] => .inl ⟨rfl, rfl⟩
  | a :: l => by
    rw [List.findIdx?_cons, List.find?_cons]
    cases h : p a with
    | true => exact .inr ⟨0, by simp, rfl, rfl, by simpa using h, fun j _ h => by omega⟩
    | false =>
      rcases find_idx p l with ⟨h1, h2⟩ | ⟨i, hi, h1, h2, h3, h4⟩
      · left; rw [h1, h2]; exact ⟨rfl, rfl⟩
      · right
        refine ⟨i + 1, by simp; omega, by rw [h1]; rfl, by rw [h2]; simp, by simpa using h3, fun j hj hji => ?_⟩
        cases j with
        | zero => simpa using h
        | succ j => simpa using h4 j (by simpa using hj) (by omega)

theorem getD_lt {α : Type} (l : List α) (d : α) {i : Nat} (h : i < l.length) : l.getD i d = l[i] := by simp [List.getD, h]

section
variable {S : PB} {R : RB}

theorem Sim.place (h : Sim S R) (id : Int) : (R.place id = none ∧ S.places id = none) ∨ ∃ i, ∃ hi : i < R.P.length, R.place id = some i ∧ R.P[i].num = id ∧
    S.places id = some ⟨R.P[i].bell, (R.W.filter fun x => x.pl == id).map RW.wt, R.P[i].word⟩ := by
  rcases find_idx (fun p : RP => p.num == id) R.P with ⟨h1, h2⟩ | ⟨i, hi, h1, h2, h3, _⟩
  · exact .inl ⟨h1, by rw [h.pl, h2]; rfl⟩
  · exact .inr ⟨i, hi, h1, by simpa using h3, by rw [h.pl, h2]; rfl⟩

theorem Sim.waits (h : Sim S R) (t : Int) : (R.waits t = none ∧ S.wher t = none) ∨ ∃ i, ∃ hi : i < R.W.length, R.waits t = some i ∧ R.W[i].th = t ∧ S.wher t = some R.W[i].pl := by
  rcases find_idx (fun x : RW => x.th == t) R.W with ⟨h1, h2⟩ | ⟨i, hi, h1, h2, h3, _⟩
  · exact .inl ⟨h1, by rw [h.wh, h2]; rfl⟩
  · exact .inr ⟨i, hi, h1, by simpa using h3, by rw [h.wh, h2]; rfl⟩

theorem Sim.may (h : Sim S R) (id : Int) (bell : Bool) (th : Int) : (∃ i, ∃ hi : i < R.P.length, R.may id bell th = 0 ∧ R.place id = some i ∧ R.P[i].num = id ∧ R.P[i].bell = bell ∧ R.waits th = none ∧ S.wher th = none ∧
      S.places id = some ⟨R.P[i].bell, (R.W.filter fun x => x.pl == id).map RW.wt, R.P[i].word⟩ ∧ S.at id bell th = (0, some ⟨R.P[i].bell, (R.W.filter fun x => x.pl == id).map RW.wt, R.P[i].word⟩)) ∨
    (R.may id bell th ≠ 0 ∧ S.at id bell th = (R.may id bell th, none)) := by
  unfold RB.may PB.at
  rcases h.place id with ⟨h1, h2⟩ | ⟨i, hi, h1, h2, h3⟩
  · right; rw [h1, h2]; simp
  · rw [h1, h3]
    simp only [getD_lt _ _ hi]
    by_cases hb : R.P[i].bell = bell
    · simp only [hb, if_true]
      rcases h.waits th with ⟨w1, w2⟩ | ⟨j, hj, w1, w2, w3⟩
      · left; rw [w1, w2]; exact ⟨i, hi, rfl, rfl, h2, hb, rfl, rfl, by rw [hb], by rw [hb]⟩
      · right; rw [w1, w3]; simp
    · right; simp [hb]

/-- Who stands first at a place. -/
theorem Sim.head (R : RB) (id : Int) : (R.first id = none ∧ R.W.filter (fun x => x.pl == id) = []) ∨ ∃ i, ∃ hi : i < R.W.length, R.first id = some i ∧ R.W[i].pl = id ∧
    R.W.filter (fun x => x.pl == id) = R.W[i] :: (R.drop i).W.filter (fun x => x.pl == id) := by
  unfold RB.first RB.drop
  generalize R.W = W
  induction W with
  | nil => exact .inl ⟨rfl, rfl⟩
  | cons a l ih =>
    rw [List.findIdx?_cons]
    by_cases h : a.pl == id
    · right
      refine ⟨0, by simp, by simp [h], by simpa using h, by simp [h]⟩
    · rcases ih with ⟨h1, h2⟩ | ⟨i, hi, h1, h2, h3⟩
      · left; simp [h, h1, h2]
      · right
        refine ⟨i + 1, by simp; omega, by simp [h, h1], by simpa using h2, ?_⟩
        simp only [List.filter_cons, h, if_false, Bool.false_eq_true]
        rw [h3]
        simp [h]

theorem Sim.opn (h : Sim S R) (id : Int) (bell : Bool) : (S.opn id bell).1 = (R.opn id bell).1 ∧ Sim (S.opn id bell).2 (R.opn id bell).2 := by
  unfold PB.opn RB.opn
  by_cases h0 : id < 0
  · simp only [h0, if_true]; exact ⟨trivial, h⟩
  · simp only [h0, if_false]
    rcases h.place id with ⟨h1, h2⟩ | ⟨i, hi, h1, h2, h3⟩
    · rw [h1, h2]
      have hnew : ∀ p ∈ R.P, p.num ≠ id := fun p hp e => by
        have := h.pl id
        rw [h2] at this
        have h4 : (R.P.find? fun p => p.num == id) = none := by simpa using this.symm
        rw [List.find?_eq_none] at h4
        exact h4 p hp (by simpa using e)
      have hw : ∀ x ∈ R.W, x.pl ≠ id := fun x hx e => by
        obtain ⟨p, hp, hpn⟩ := h.wp x hx
        exact hnew p hp (hpn.trans e)
      refine ⟨rfl, ?_, h.wn, fun x hx => ?_, fun j => ?_, h.wh⟩
      · rw [List.map_append, List.nodup_append]
        refine ⟨h.pn, by simp, fun a ha b hb => ?_⟩
        simp at hb
        subst hb
        obtain ⟨p, hp, rfl⟩ := List.mem_map.1 ha
        exact hnew p hp
      · obtain ⟨p, hp, e⟩ := h.wp x hx
        exact ⟨p, List.mem_append_left _ hp, e⟩
      · show up S.places id _ j = _
        rw [List.find?_append]
        by_cases e : j = id
        · subst e
          rw [up_same]
          have h4 : (R.P.find? fun p => p.num == j) = none := by rw [List.find?_eq_none]; intro p hp; simpa using hnew p hp
          rw [h4]
          have h5 : (R.W.filter fun x => x.pl == j) = [] := by rw [List.filter_eq_nil_iff]; intro x hx; simpa using hw x hx
          simp [h5]
        · rw [up_other _ _ _ _ e, h.pl]
          have : (id == j) = false := by simpa using fun hh : id = j => e hh.symm
          cases hf : R.P.find? fun p => p.num == j <;> simp [this]
    · rw [h1, h3]; exact ⟨rfl, h⟩

theorem drop_filter : ∀ (W : List RW) (i : Nat) (hi : i < W.length), (W.map (·.th)).Nodup → W.take i ++ W.drop (i + 1) = W.filter fun x => !(x.th == W[i].th)
  | [], i, hi, _ => by simp at hi
  | a :: l, 0, _, hn => by
    simp only [List.map_cons, List.nodup_cons] at hn
    simp only [List.take_zero, List.nil_append, List.getElem_cons_zero, List.filter_cons, BEq.rfl, Bool.not_true, Bool.false_eq_true, if_false]
    symm
    show l.filter _ = l
    rw [List.filter_eq_self]
    intro x hx
    have : x.th ≠ a.th := fun e => hn.1 (by rw [← e]; exact List.mem_map_of_mem hx)
    simpa using this
  | a :: l, i + 1, hi, hn => by
    simp only [List.map_cons, List.nodup_cons] at hn
    have hi' : i < l.length := by simpa using hi
    have ih := drop_filter l i hi' hn.2
    have hne : a.th ≠ l[i].th := fun e => hn.1 (by rw [e]; exact List.mem_map_of_mem (List.getElem_mem hi'))
    simp only [List.take_succ_cons, List.drop_succ_cons, List.cons_append, List.getElem_cons_succ, List.filter_cons]
    rw [ih]
    have : (a.th == l[i].th) = false := by simpa using hne
    simp [this]

theorem same_th {W : List RW} (hn : (W.map (·.th)).Nodup) {x y : RW} (hx : x ∈ W) (hy : y ∈ W) (h : x.th = y.th) : x = y := by
  induction W with
  | nil => cases hx
  | cons a l ih =>
    rw [List.map_cons, List.nodup_cons] at hn
    have mm : ∀ {z : RW}, z ∈ l → z.th ∈ l.map (·.th) := fun {z} hz => List.mem_map.2 ⟨z, hz, rfl⟩
    rcases List.mem_cons.1 hx with e1 | hx
    · rcases List.mem_cons.1 hy with e2 | hy
      · rw [e1, e2]
      · exact absurd (by rw [← e1, h]; exact mm hy) hn.1
    · rcases List.mem_cons.1 hy with e2 | hy
      · exact absurd (by rw [← e2, ← h]; exact mm hx) hn.1
      · exact ih hn.2 hx hy

/-- A thread waits no more. -/
theorem Sim.gone (h : Sim S R) {i : Nat} (hi : i < R.W.length) {bell : Bool} {word : Int} {line : List Wt} (hp : S.places R.W[i].pl = some ⟨bell, line, word⟩) :
    Sim ⟨up S.places R.W[i].pl (some ⟨bell, ((R.drop i).W.filter fun x => x.pl == R.W[i].pl).map RW.wt, word⟩), up S.wher R.W[i].th none⟩ (R.drop i) := by
  have hd : (R.drop i).W = R.W.filter fun x => !(x.th == R.W[i].th) := drop_filter R.W i hi h.wn
  have hP : (R.drop i).P = R.P := rfl
  have hmem := List.getElem_mem hi
  refine ⟨h.pn, ?_, fun x hx => ?_, fun j => ?_, fun t => ?_⟩
  · rw [hd]
    exact (List.filter_sublist.map _).nodup h.wn
  · rw [hd] at hx
    exact h.wp x (List.mem_filter.1 hx).1
  · rw [hP]
    show up S.places R.W[i].pl _ j = _
    by_cases e : j = R.W[i].pl
    · subst e
      rw [up_same]
      rw [h.pl] at hp
      cases hf : R.P.find? fun p => p.num == R.W[i].pl with
      | none => rw [hf] at hp; cases hp
      | some p =>
        rw [hf] at hp
        simp at hp
        obtain ⟨rfl, _, rfl⟩ := hp
        rfl
    · rw [up_other _ _ _ _ e, h.pl]
      have : (R.drop i).W.filter (fun x => x.pl == j) = R.W.filter fun x => x.pl == j := by
        rw [hd, List.filter_filter]
        apply List.filter_congr
        intro x hx
        by_cases ex : x.pl = j
        · have : x.th ≠ R.W[i].th := fun e2 => e (by rw [← ex, same_th h.wn hx hmem e2])
          simp [ex, this]
        · simp [ex]
      rw [this]
  · show up S.wher R.W[i].th none t = _
    rw [hd]
    by_cases e : t = R.W[i].th
    · subst e
      rw [up_same]
      have : (R.W.filter fun x => !(x.th == R.W[i].th)).find? (fun x => x.th == R.W[i].th) = none := by
        rw [List.find?_eq_none]
        intro x hx
        have := (List.mem_filter.1 hx).2
        simpa using this
      rw [this]
      rfl
    · rw [up_other _ _ _ _ e, h.wh]
      congr 1
      rw [List.find?_filter]
      congr 1
      funext x
      by_cases ex : x.th = t
      · have : x.th ≠ R.W[i].th := fun e2 => e (ex.symm.trans e2)
        simp [ex, e]
      · simp [ex]

/-- A thread stands behind the others. -/
theorem Sim.stands (h : Sim S R) {id th how : Int} {m : Msg} {i : Nat} (hi : i < R.P.length) (hn : R.P[i].num = id) (hw : S.wher th = none)
    (hp : S.places id = some ⟨R.P[i].bell, (R.W.filter fun x => x.pl == id).map RW.wt, R.P[i].word⟩) :
    Sim (S.wait id ⟨R.P[i].bell, (R.W.filter fun x => x.pl == id).map RW.wt, R.P[i].word⟩ ⟨th, how, m⟩) (R.add ⟨id, th, how, m⟩) := by
  have hno : ∀ x ∈ R.W, x.th ≠ th := fun x hx e => by
    rw [h.wh] at hw
    have : (R.W.find? fun x => x.th == th) = none := by simpa using hw
    rw [List.find?_eq_none] at this
    exact this x hx (by simpa using e)
  refine ⟨h.pn, ?_, fun x hx => ?_, fun j => ?_, fun t => ?_⟩
  · show ((R.W ++ [_]).map _).Nodup
    rw [List.map_append, List.nodup_append]
    refine ⟨h.wn, by simp, fun a ha b hb => ?_⟩
    simp at hb
    subst hb
    obtain ⟨x, hx, rfl⟩ := List.mem_map.1 ha
    exact hno x hx
  · rcases List.mem_append.1 hx with hx | hx
    · exact h.wp x hx
    · simp at hx
      subst hx
      exact ⟨R.P[i], List.getElem_mem hi, hn⟩
  · have hW : (R.add ⟨id, th, how, m⟩).W = R.W ++ [⟨id, th, how, m⟩] := rfl
    have hP : (R.add ⟨id, th, how, m⟩).P = R.P := rfl
    rw [hW, hP]
    show up S.places id _ j = _
    by_cases e : j = id
    · subst e
      rw [up_same]
      rw [h.pl] at hp
      cases hf : R.P.find? fun p => p.num == j with
      | none => rw [hf] at hp; cases hp
      | some p =>
        rw [hf] at hp
        simp at hp
        simp [hp.1, hp.2, List.filter_append, RW.wt]
    · rw [up_other _ _ _ _ e, h.pl]
      have : (id == j) = false := by simpa using fun hh : id = j => e hh.symm
      simp [List.filter_append, this]
  · show up S.wher th _ t = ((R.W ++ [_]).find? _).map _
    rw [List.find?_append]
    by_cases e : t = th
    · subst e
      rw [up_same]
      have : (R.W.find? fun x => x.th == t) = none := by rw [List.find?_eq_none]; intro x hx; simpa using hno x hx
      rw [this]
      simp
    · rw [up_other _ _ _ _ e, h.wh]
      have : (th == t) = false := by simpa using fun hh : th = t => e hh.symm
      cases hf : R.W.find? fun x => x.th == t <;> simp [this]

theorem Sim.setWord (h : Sim S R) {id : Int} {i : Nat} (hi : i < R.P.length) (hn : R.P[i].num = id) (x : Int) :
    Sim { S with places := up S.places id (some ⟨R.P[i].bell, (R.W.filter fun x => x.pl == id).map RW.wt, x⟩) } (R.setWord i x) := by
  subst hn
  have hfind : ∀ (P : List RP) (i : Nat) (hi : i < P.length), (P.map (·.num)).Nodup → ∀ j, (P.modify i fun p => { p with word := x }).find? (fun p => p.num == j) =
      if j = P[i].num then some { P[i] with word := x } else P.find? fun p => p.num == j := by
    intro P
    induction P with
    | nil => intro i hi; simp at hi
    | cons a l ih =>
      intro i hi hnd j
      simp only [List.map_cons, List.nodup_cons] at hnd
      cases i with
      | zero =>
        simp only [List.modify_zero_cons, List.find?_cons, List.getElem_cons_zero]
        by_cases e : j = a.num
        · simp [e]
        · have : (a.num == j) = false := by simpa using fun hh : a.num = j => e hh.symm
          simp [this, e]
      | succ i =>
        have hi' : i < l.length := by simpa using hi
        have hne : a.num ≠ l[i].num := fun e => hnd.1 (by rw [e]; exact List.mem_map_of_mem (List.getElem_mem hi'))
        simp only [List.modify_succ_cons, List.find?_cons, List.getElem_cons_succ, ih i hi' hnd.2 j]
        by_cases e : a.num = j
        · have e2 : ¬ j = l[i].num := fun hh => hne (e.trans hh)
          simp [e, e2]
        · have : (a.num == j) = false := by simpa using e
          simp [this]
  have hmap : ∀ (P : List RP) (i : Nat), (P.modify i fun p => { p with word := x }).map (·.num) = P.map (·.num) := by
    intro P
    induction P with
    | nil => intro i; simp
    | cons a l ih => intro i; cases i <;> simp [ih]
  refine ⟨by show ((R.P.modify i _).map _).Nodup; rw [hmap]; exact h.pn, h.wn, fun y hy => ?_, fun j => ?_, h.wh⟩
  · obtain ⟨p, hp, e⟩ := h.wp y hy
    have : y.pl ∈ (R.setWord i x).P.map (·.num) := by
      show y.pl ∈ (R.P.modify i _).map _
      rw [hmap, ← e]
      exact List.mem_map_of_mem hp
    obtain ⟨q, hq, e2⟩ := List.mem_map.1 this
    exact ⟨q, hq, e2⟩
  · show up S.places R.P[i].num _ j = ((R.P.modify i _).find? _).map _
    rw [hfind R.P i hi h.pn j]
    by_cases e : j = R.P[i].num
    · subst e
      rw [up_same, if_pos rfl]
      rfl
    · rw [up_other _ _ _ _ e, if_neg e, h.pl]
      rfl

/-- The first one goes. -/
theorem Sim.popped (h : Sim S R) {id : Int} {i k : Nat} (hk : k < R.P.length) (hi : i < R.W.length) (hpl : R.W[i].pl = id) (hp : S.places id = some ⟨R.P[k].bell, (R.W.filter fun x => x.pl == id).map RW.wt, R.P[k].word⟩) :
    Sim (S.pop id ⟨R.P[k].bell, (R.W.filter fun x => x.pl == id).map RW.wt, R.P[k].word⟩ R.W[i].wt (((R.drop i).W.filter fun x => x.pl == id).map RW.wt)) (R.drop i) := by
  subst hpl
  exact h.gone hi hp

theorem Sim.send (h : Sim S R) (id th how : Int) (m : Msg) : (S.send id th how m).1 = (R.send id th how m).1 ∧ Sim (S.send id th how m).2 (R.send id th how m).2 := by
  unfold PB.send RB.send
  by_cases hh : how = 1 ∨ how = 2 ∨ how = 3 ∨ how = 7
  · simp only [hh, if_true]
    rcases h.may id false th with ⟨k, hk, h0, hpl, hn, hb, _, hw, hp, hat⟩ | ⟨h0, hat⟩
    · rw [hat, h0]
      simp only [if_true]
      rcases Sim.head R id with ⟨h1, h2⟩ | ⟨i, hi, h1, h2, h3⟩
      · rw [h1, h2]
        simp only [List.map_nil]
        by_cases h7 : how = 1
        · simp only [h7, if_true]; exact ⟨trivial, h⟩
        · simp only [h7, if_false]
          have := h.stands (how := how) (m := m) hk hn hw hp
          rw [h2] at this
          exact ⟨trivial, this⟩
      · rw [h1]
        have hst := h.stands (how := how) (m := m) hk hn hw hp
        have hpo := h.popped hk hi h2 hp
        rw [h3] at hst hpo
        rw [h3]
        simp only [List.map_cons, getD_lt _ _ hi, RW.wt]
        by_cases h4 : R.W[i].how = 4
        · simp only [h4, if_true]; exact ⟨trivial, hpo⟩
        · simp only [h4, if_false]
          by_cases h7 : how = 1
          · simp only [h7, if_true]; exact ⟨trivial, h⟩
          · simp only [h7, if_false]
            exact ⟨trivial, hst⟩
    · rw [hat]
      simp only [h0, if_false]
      exact ⟨trivial, h⟩
  · simp only [hh, if_false]
    exact ⟨trivial, h⟩

theorem Sim.get (h : Sim S R) (id th : Int) (wt : Bool) : (S.get id th wt).1 = (R.get id th wt).1 ∧ Sim (S.get id th wt).2 (R.get id th wt).2 := by
  unfold PB.get RB.get
  rcases h.may id false th with ⟨k, hk, h0, hpl, hn, hb, _, hw, hp, hat⟩ | ⟨h0, hat⟩
  · rw [hat, h0]
    simp only [if_true]
    have hst := h.stands (how := 4) (m := .zero) hk hn hw hp
    rcases Sim.head R id with ⟨h1, h2⟩ | ⟨i, hi, h1, h2, h3⟩
    · rw [h1, h2]
      rw [h2] at hst
      cases wt with
      | true => exact ⟨rfl, hst⟩
      | false => exact ⟨rfl, h⟩
    · rw [h1]
      have hpo := h.popped hk hi h2 hp
      rw [h3] at hst hpo
      rw [h3]
      simp only [List.map_cons, getD_lt _ _ hi, RW.wt]
      by_cases h4 : R.W[i].how = 4
      · simp only [if_pos h4]
        cases wt with
        | true => exact ⟨rfl, hst⟩
        | false => exact ⟨rfl, h⟩
      · simp only [if_neg h4]
        exact ⟨trivial, hpo⟩
  · rw [hat]
    simp only [h0, if_false]
    exact ⟨trivial, h⟩

theorem Sim.ring (h : Sim S R) (bor : Int → Int → Int) (id badge : Int) : (S.ring bor id badge).1 = (R.ring bor id badge).1 ∧ Sim (S.ring bor id badge).2 (R.ring bor id badge).2 := by
  unfold PB.ring RB.ring
  rcases h.place id with ⟨h1, h2⟩ | ⟨k, hk, h1, hn, hp⟩
  · rw [h1, h2]; exact ⟨rfl, h⟩
  · rw [h1, hp]
    simp only [getD_lt _ _ hk]
    cases hb : R.P[k].bell with
    | false => simp only [Bool.false_eq_true, if_false]; exact ⟨trivial, h⟩
    | true =>
      simp only [if_true]
      rcases Sim.head R id with ⟨e1, e2⟩ | ⟨i, hi, e1, e2, e3⟩
      · rw [e1, e2]
        have := h.setWord hk hn (bor R.P[k].word badge)
        rw [e2, hb] at this
        exact ⟨rfl, this⟩
      · rw [e1]
        have hpo := h.popped hk hi e2 hp
        rw [e3, hb] at hpo
        rw [e3]
        simp only [List.map_cons, getD_lt _ _ hi, RW.wt]
        exact ⟨trivial, hpo⟩

theorem Sim.hear (h : Sim S R) (id th : Int) (wt : Bool) : (S.hear id th wt).1 = (R.hear id th wt).1 ∧ Sim (S.hear id th wt).2 (R.hear id th wt).2 := by
  unfold PB.hear RB.hear
  rcases h.may id true th with ⟨k, hk, h0, hpl, hn, hb, _, hw, hp, hat⟩ | ⟨h0, hat⟩
  · rw [hat, h0, hpl]
    simp only [if_true, getD_lt _ _ hk]
    have hst := h.stands (how := 6) (m := .zero) hk hn hw hp
    by_cases hz : R.P[k].word = 0
    · simp only [hz, if_true]
      cases wt with
      | true => rw [hz] at hst; exact ⟨rfl, hst⟩
      | false => exact ⟨rfl, h⟩
    · simp only [hz, if_false]
      exact ⟨trivial, h.setWord hk hn 0⟩
  · rw [hat]
    simp only [h0, if_false]
    exact ⟨trivial, h⟩

theorem Sim.cancel (h : Sim S R) (th : Int) : (S.cancel th).1 = (R.cancel th).1 ∧ Sim (S.cancel th).2 (R.cancel th).2 := by
  unfold PB.cancel RB.cancel
  rcases h.waits th with ⟨w1, w2⟩ | ⟨i, hi, w1, w2, w3⟩
  · rw [w1, w2]; exact ⟨rfl, h⟩
  · simp only [w1, w3]
    obtain ⟨p, hp, hpn⟩ := h.wp _ (List.getElem_mem hi)
    rcases h.place R.W[i].pl with ⟨h1, h2⟩ | ⟨k, hk, h1, hn, hpl⟩
    · exfalso
      have := h.pl R.W[i].pl
      rw [h2] at this
      have h4 : (R.P.find? fun p => p.num == R.W[i].pl) = none := by simpa using this.symm
      rw [List.find?_eq_none] at h4
      exact h4 p hp (by simpa using hpn)
    · simp only [hpl]
      refine ⟨trivial, ?_⟩
      have hg := h.gone hi hpl
      have hd : (R.drop i).W = R.W.filter fun x => !(x.th == R.W[i].th) := drop_filter R.W i hi h.wn
      have e : ((R.W.filter fun x => x.pl == R.W[i].pl).map RW.wt).filter (fun w => !(w.th == th)) = ((R.drop i).W.filter fun x => x.pl == R.W[i].pl).map RW.wt := by
        rw [hd, List.filter_map, List.filter_filter, List.filter_filter]
        congr 1
        apply List.filter_congr
        intro x _
        simp [RW.wt, w2, Bool.and_comm]
      rw [e, ← w2]
      exact hg

theorem Sim.line (h : Sim S R) (id : Int) : S.line id = R.line id := by
  unfold PB.line RB.line
  rcases h.place id with ⟨h1, h2⟩ | ⟨k, hk, h1, hn, hp⟩
  · rw [h1, h2]
  · rw [h1, hp]
    simp [RW.wt, Function.comp_def]

theorem Sim.wordOf (h : Sim S R) (id : Int) : S.wordOf id = R.wordOf id := by
  unfold PB.wordOf RB.wordOf
  rcases h.place id with ⟨h1, h2⟩ | ⟨k, hk, h1, hn, hp⟩
  · rw [h1, h2]
  · rw [h1, hp]
    simp only [getD_lt _ _ hk]

theorem Sim.where_ (h : Sim S R) (th : Int) : S.where_ th = R.where_ th := by
  unfold PB.where_ RB.where_
  rcases h.waits th with ⟨w1, w2⟩ | ⟨i, hi, w1, w2, w3⟩
  · rw [w1, w2]
  · simp only [w1, w3]
    obtain ⟨p, hp, hpn⟩ := h.wp _ (List.getElem_mem hi)
    rcases h.place R.W[i].pl with ⟨h1, h2⟩ | ⟨k, hk, h1, hn, hpl⟩
    · exfalso
      have := h.pl R.W[i].pl
      rw [h2] at this
      have h4 : (R.P.find? fun p => p.num == R.W[i].pl) = none := by simpa using this.symm
      rw [List.find?_eq_none] at h4
      exact h4 p hp (by simpa using hpn)
    · simp only [hpl, getD_lt _ _ hi]
      have hf : ((R.W.filter fun x => x.pl == R.W[i].pl).map RW.wt).find? (fun w => w.th == th) = some R.W[i].wt := by
        rw [List.find?_map, find_filter]
        have : R.W.find? (fun x => (x.pl == R.W[i].pl) && ((fun w : Wt => w.th == th) ∘ RW.wt) x) = some R.W[i] := by
          cases hh : R.W.find? (fun x => (x.pl == R.W[i].pl) && ((fun w : Wt => w.th == th) ∘ RW.wt) x) with
          | none =>
            rw [List.find?_eq_none] at hh
            exact absurd (hh _ (List.getElem_mem hi)) (by simp [RW.wt, w2])
          | some y =>
            have h5 := List.find?_some hh
            have h6 := List.mem_of_find?_eq_some hh
            simp [RW.wt] at h5
            rw [same_th h.wn h6 (List.getElem_mem hi) (h5.2.trans w2.symm)]
        rw [this]
        rfl
      simp only [hf]
      rfl

theorem cancels_spec : ∀ (l : List Int) {S : PB} {R : RB}, Sim S R → (cancels R l).P = R.P ∧ (cancels R l).W = R.W.filter (fun x => !(l.contains x.th)) ∧ ∃ S', Sim S' (cancels R l)
  | [], S, R, h => ⟨rfl, (List.filter_eq_self.2 (by simp)).symm, S, h⟩
  | t :: l, S, R, h => by
    have hc := (h.cancel t).2
    obtain ⟨h1, h2, h3⟩ := cancels_spec l hc
    have hP : (R.cancel t).2.P = R.P := by unfold RB.cancel; split <;> rfl
    have hW : (R.cancel t).2.W = R.W.filter fun x => !(x.th == t) := by
      unfold RB.cancel
      rcases h.waits t with ⟨w1, w2⟩ | ⟨i, hi, w1, w2, w3⟩
      · rw [w1]
        symm
        show R.W.filter _ = R.W
        rw [List.filter_eq_self]
        intro x hx
        rw [h.wh] at w2
        have : (R.W.find? fun x => x.th == t) = none := by simpa using w2
        rw [List.find?_eq_none] at this
        simpa using this x hx
      · rw [w1]
        show (R.drop i).W = _
        rw [← w2]
        exact drop_filter R.W i hi h.wn
    refine ⟨by show (cancels (R.cancel t).2 l).P = _; rw [h1, hP], ?_, h3⟩
    show (cancels (R.cancel t).2 l).W = _
    rw [h2, hW, List.filter_filter]
    apply List.filter_congr
    intro x _
    simp only [List.contains_cons]
    cases (x.th == t) <;> simp

theorem Sim.close (h : Sim S R) (id : Int) : (S.close id).1 = (R.close id).1 ∧ Sim (S.close id).2 (R.close id).2 := by
  have hl := h.line id
  unfold PB.close RB.close
  unfold PB.line at hl
  rcases h.place id with ⟨h1, h2⟩ | ⟨k, hk, h1, hn, hp⟩
  · rw [h1, h2]; exact ⟨rfl, h⟩
  · rw [h1, hp]
    rw [hp] at hl
    simp only at hl ⊢
    refine ⟨hl, ?_⟩
    have hl1 := congrArg Prod.fst hl
    simp only at hl1
    obtain ⟨c1, c2, S2, h3⟩ := cancels_spec (R.line id).1 h
    have hW : (cancels R (R.line id).1).W = R.W.filter fun x => !(x.pl == id) := by
      rw [c2, ← hl1]
      apply List.filter_congr
      intro x hx
      congr 1
      rw [Bool.eq_iff_iff]
      simp only [List.contains_iff_mem, List.map_map, List.mem_map, List.mem_filter, beq_iff_eq, Function.comp_def, RW.wt]
      constructor
      · rintro ⟨y, ⟨hy, hyp⟩, hyt⟩
        rw [← same_th h.wn hy hx hyt]
        exact hyp
      · intro hxp
        exact ⟨x, ⟨hx, hxp⟩, rfl⟩
    have hPd : ∀ (P : List RP) (i : Nat) (hi : i < P.length), (P.map (·.num)).Nodup → P.take i ++ P.drop (i + 1) = P.filter fun p => !(p.num == P[i].num) := by
      intro P
      induction P with
      | nil => intro i hi; simp at hi
      | cons a l ih =>
        intro i hi hnd
        rw [List.map_cons, List.nodup_cons] at hnd
        cases i with
        | zero =>
          simp only [List.take_zero, List.nil_append, List.getElem_cons_zero, List.filter_cons, BEq.rfl, Bool.not_true, Bool.false_eq_true, if_false]
          symm
          show l.filter _ = l
          rw [List.filter_eq_self]
          intro x hx
          have : x.num ≠ a.num := fun e => hnd.1 (by rw [← e]; exact List.mem_map.2 ⟨x, hx, rfl⟩)
          simpa using this
        | succ i =>
          have hi' : i < l.length := by simpa using hi
          have hne : a.num ≠ l[i].num := fun e => hnd.1 (by rw [e]; exact List.mem_map.2 ⟨_, List.getElem_mem hi', rfl⟩)
          simp only [List.take_succ_cons, List.drop_succ_cons, List.cons_append, List.getElem_cons_succ, List.filter_cons]
          rw [ih i hi' hnd.2]
          have : (a.num == l[i].num) = false := by simpa using hne
          simp [this]
    have hPe := hPd R.P k hk h.pn
    rw [hn] at hPe
    refine ⟨?_, ?_, fun x hx => ?_, fun j => ?_, fun t => ?_⟩
    · show ((R.P.take k ++ R.P.drop (k + 1)).map _).Nodup
      rw [hPe]
      exact (List.filter_sublist.map _).nodup h.pn
    · show ((cancels R _).W.map _).Nodup
      rw [hW]
      exact (List.filter_sublist.map _).nodup h.wn
    · have hx' : x ∈ (cancels R (R.line id).1).W := hx
      rw [hW] at hx'
      obtain ⟨hx1, hx2⟩ := List.mem_filter.1 hx'
      obtain ⟨p, hp1, hp2⟩ := h.wp x hx1
      refine ⟨p, ?_, hp2⟩
      show p ∈ R.P.take k ++ R.P.drop (k + 1)
      rw [hPe]
      refine List.mem_filter.2 ⟨hp1, ?_⟩
      rw [hp2]
      exact hx2
    · show up S.places id none j = ((R.P.take k ++ R.P.drop (k + 1)).find? _).map fun p => (⟨p.bell, ((cancels R (R.line id).1).W.filter _).map RW.wt, p.word⟩ : Pl)
      rw [hPe, hW]
      by_cases e : j = id
      · subst e
        rw [up_same]
        have : (R.P.filter fun p => !(p.num == j)).find? (fun p => p.num == j) = none := by
          rw [List.find?_eq_none]
          intro x hx
          have := (List.mem_filter.1 hx).2
          simpa using this
        rw [this]
        rfl
      · rw [up_other _ _ _ _ e, h.pl]
        have h5 : (R.P.filter fun p => !(p.num == id)).find? (fun p => p.num == j) = R.P.find? fun p => p.num == j := by
          rw [List.find?_filter]
          congr 1
          funext p
          by_cases ep : p.num = j
          · simp [ep, e]
          · simp [ep]
        have h6 : (R.W.filter fun x => !(x.pl == id)).filter (fun x => x.pl == j) = R.W.filter fun x => x.pl == j := by
          rw [List.filter_filter]
          apply List.filter_congr
          intro x _
          by_cases ex : x.pl = j
          · simp [ex, e]
          · simp [ex]
        rw [h5, h6]
    · show (if t ∈ ((R.W.filter fun x => x.pl == id).map RW.wt).map (·.th) then none else S.wher t) = ((cancels R (R.line id).1).W.find? _).map _
      rw [hW, find_filter, h.wh]
      by_cases ht : t ∈ ((R.W.filter fun x => x.pl == id).map RW.wt).map (·.th)
      · rw [if_pos ht]
        rw [List.map_map] at ht
        obtain ⟨y, hy, hyt⟩ := List.mem_map.1 ht
        obtain ⟨hy1, hy2⟩ := List.mem_filter.1 hy
        have : R.W.find? (fun x => !(x.pl == id) && (x.th == t)) = none := by
          rw [List.find?_eq_none]
          intro x hx hxx
          simp at hxx
          have e2 : x.th = y.th := hxx.2.trans hyt.symm
          have e3 := same_th h.wn hx hy1 e2
          subst e3
          simp at hy2
          exact hxx.1 hy2
        rw [this]
        rfl
      · rw [if_neg ht]
        have : R.W.find? (fun x => !(x.pl == id) && (x.th == t)) = R.W.find? fun x => x.th == t := by
          have hc : ∀ (W : List RW), (∀ x ∈ W, x ∈ R.W) → W.find? (fun x => !(x.pl == id) && (x.th == t)) = W.find? fun x => x.th == t := by
            intro W
            induction W with
            | nil => intro _; rfl
            | cons a l ih =>
              intro hs
              have ha := hs a (by simp)
              rw [List.find?_cons, List.find?_cons, ih fun x hx => hs x (List.mem_cons_of_mem _ hx)]
              by_cases e1 : a.th = t
              · have : a.pl ≠ id := fun e2 => ht (by rw [List.map_map]; exact List.mem_map.2 ⟨a, List.mem_filter.2 ⟨ha, by simpa using e2⟩, e1⟩)
                have hb : (a.pl == id) = false := by simpa using this
                simp [e1, hb]
              · have hb : (a.th == t) = false := by simpa using e1
                simp [hb]
          exact hc R.W fun x hx => hx
        rw [this]
end
end Vk.Ipc
