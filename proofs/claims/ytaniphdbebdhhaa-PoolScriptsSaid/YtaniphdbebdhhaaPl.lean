/-
  Pages and untypeds: the plain law. No condition.
-/
namespace Vk.Pool

structure Ob where
  kind : Int
  num : Int
deriving DecidableEq, Inhabited
structure Rg where
  num : Int
  mark : Int
deriving DecidableEq
structure RP where
  n : Int
  O : List Ob
  G : List Rg

def size (num : Int) : Int := 2 ^ (num / 256).toNat
def base (num : Int) : Int := num % 256
def first (o : Ob) : Int := if o.kind = 1 then base o.num else o.num
def pages (o : Ob) : Int := if o.kind = 1 then size o.num else 1
def meets (a n b m : Int) : Bool := decide (a < b + m) && decide (b < a + n)
theorem meets_iff (a n b m : Int) : meets a n b m = true ↔ a < b + m ∧ b < a + n := by simp [meets]

def RP.hitO (R : RP) (a n : Int) : Bool := R.O.any fun p => meets a n p.num 1
def RP.hitG (R : RP) (a n : Int) : Bool := R.G.any fun g => meets a n (base g.num) (size g.num)
def RP.lieG (R : RP) (num : Int) : Bool := R.G.any fun g => meets (base num) (size num) (base g.num) (size g.num) && decide (size g.num < size num)
def RP.lies (R : RP) (num : Int) : Bool := R.hitO (base num) (size num) || R.lieG num
def RP.reg (R : RP) (t : Int) : Option Rg := R.G.find? fun g => g.num == t
def RP.at (R : RP) (i : Int) : Ob := (R.O.find? fun o => o.num == i).getD ⟨0, 0⟩

def RP.put1 (R : RP) (o : Ob) : RP := if o.kind = 1 then { R with G := R.G ++ [⟨o.num, 0⟩] } else { R with O := R.O ++ [o] }
def RP.add (R : RP) (o : Ob) : Int × RP :=
  if o.kind < 1 ∨ 8 < o.kind then (12, R)
  else if o.num < 0 ∨ o.kind = 1 ∧ 8 < o.num / 256 then (1, R)
  else if first o % pages o ≠ 0 ∨ R.n - pages o < first o then (1, R)
  else if R.hitO (first o) (pages o) || R.hitG (first o) (pages o) then (7, R)
  else (0, R.put1 o)
def RP.dropG (R : RP) (t : Int) : RP := { R with G := R.G.filter fun g => g.num != t }
def RP.dropO (R : RP) (o : Ob) : RP := { R with O := R.O.filter fun p => p != o }
def RP.remove (R : RP) (o : Ob) : Int × RP :=
  if o.kind = 1 then
    match R.reg o.num with
    | none => (6, R)
    | some _ => if R.lies o.num then (16, R) else (0, R.dropG o.num)
  else if o ∈ R.O then (0, R.dropO o) else (6, R)
def RP.empty (R : RP) (t : Int) : Bool × Int :=
  match R.reg t with
  | none => (false, 6)
  | some _ => (!R.lies t, 0)
def RP.mark (R : RP) (t : Int) : Int × Int :=
  match R.reg t with
  | none => (0, 6)
  | some g => (g.mark, 0)
def RP.atp (R : RP) (i : Int) : Ob × Int := if i < 0 ∨ R.n ≤ i then (⟨0, 0⟩, 1) else (R.at i, 0)
def RP.setMark (R : RP) (t m : Int) : RP := { R with G := R.G.map fun g => if g.num = t then ⟨t, m⟩ else g }
def upTo (m n : Int) : Int := (m + n - 1) / n * n
def new1 (b kind order : Int) (j : Nat) : Ob := ⟨kind, b + j * 2 ^ order.toNat + if kind = 1 then 256 * order else 0⟩
def news (b kind order : Int) (k : Nat) : List Ob := (List.range k).map (new1 b kind order)
def RP.puts (R : RP) (l : List Ob) : RP := l.foldl RP.put1 R
def RP.from (R : RP) (g : Rg) (order : Int) : Int := upTo (if R.lies g.num then g.mark else 0) (2 ^ order.toNat)
def RP.give (R : RP) (num kind order many : Int) : (List Int × Int) × RP :=
  if kind < 1 ∨ 8 < kind then (([], 12), R)
  else if order < 0 ∨ 8 < order ∨ kind ≠ 1 ∧ order ≠ 0 ∨ many < 1 ∨ 64 < many then (([], 1), R)
  else match R.reg num with
  | none => (([], 6), R)
  | some g =>
    if kind = 1 ∧ size num ≤ 2 ^ order.toNat ∨ size num < R.from g order + many * 2 ^ order.toNat then (([], 14), R)
    else (((news (base num + R.from g order) kind order many.toNat).map (·.num), 0),
      (R.puts (news (base num + R.from g order) kind order many.toNat)).setMark num (R.from g order + many * 2 ^ order.toNat))
def RP.new (n : Int) : Option RP := if n < 1 ∨ 256 < n then none else some ⟨n, [], []⟩
def RP.all (R : RP) : List Ob := R.O ++ R.G.map fun g => ⟨1, g.num⟩

/-! ### Numbers -/
theorem size_pos (t : Int) : 0 < size t := Int.pow_pos (by decide)
theorem base_nonneg (t : Int) : 0 ≤ base t := Int.emod_nonneg _ (by decide)
theorem base_lt (t : Int) : base t < 256 := Int.emod_lt_of_pos _ (by decide)
theorem step_mul {s x y : Int} (h : s ∣ x) (k : s ∣ y) (hs : 0 < s) (hxy : x < y) : x + s ≤ y := by
  obtain ⟨p, rfl⟩ := h
  obtain ⟨q, rfl⟩ := k
  have : p < q := Int.lt_of_mul_lt_mul_left hxy (Int.le_of_lt hs)
  have h2 : s * (p + 1) ≤ s * q := Int.mul_le_mul_of_nonneg_left (by omega) (Int.le_of_lt hs)
  rw [Int.mul_add, Int.mul_one] at h2
  exact h2
theorem nest {a b s t : Int} (hs : 0 < s) (hst : s ∣ t) (ha : t ∣ a) (hb : s ∣ b) (h1 : a < b + s) (h2 : b < a + t) : a ≤ b ∧ b + s ≤ a + t := by
  have hsa : s ∣ a := Int.dvd_trans hst ha
  refine ⟨?_, step_mul hb (Int.dvd_add hsa hst) hs h2⟩
  rcases Int.lt_or_le b a with h | h
  · have := step_mul hb hsa hs h; omega
  · exact h
theorem pow_dvd {i j : Nat} (h : i ≤ j) : (2 : Int) ^ i ∣ 2 ^ j := by
  obtain ⟨k, rfl⟩ := Nat.exists_eq_add_of_le h
  rw [Int.pow_add]
  exact Int.dvd_mul_right _ _
theorem pow_le_iff {i j : Nat} : (2 : Int) ^ i ≤ 2 ^ j ↔ i ≤ j := by
  have h : ((2 ^ i : Nat) : Int) ≤ ((2 ^ j : Nat) : Int) ↔ i ≤ j := by
    rw [Int.ofNat_le]; exact Nat.pow_le_pow_iff_right (by decide)
  simpa using h
theorem size_dvd {s t : Int} (h : size s ≤ size t) : size s ∣ size t := pow_dvd (pow_le_iff.1 h)

def okReg (n num : Int) : Prop := 0 ≤ num ∧ num / 256 ≤ 8 ∧ size num ∣ base num ∧ base num + size num ≤ n
theorem okReg.le {n num : Int} (h : okReg n num) : num ≤ 2303 := by have := h.2.1; omega
theorem num_eq (t : Int) : t = base t + 256 * (t / 256) := by unfold base; omega
/-- Of the same size and meeting: the same. -/
theorem same_num {n s t : Int} (hs : okReg n s) (ht : okReg n t) (h : size s = size t) (h1 : base s < base t + size t) (h2 : base t < base s + size s) : s = t := by
  have e1 := nest (size_pos t) (by rw [h]; exact Int.dvd_refl _) hs.2.2.1 ht.2.2.1 h1 h2
  have e2 := nest (size_pos s) (by rw [h]; exact Int.dvd_refl _) ht.2.2.1 hs.2.2.1 h2 h1
  have ho : (s / 256).toNat = (t / 256).toNat := Nat.le_antisymm (pow_le_iff.1 (Int.le_of_eq h)) (pow_le_iff.1 (Int.le_of_eq h.symm))
  have hs0 := hs.1
  have ht0 := ht.1
  have hb : base s = base t := by omega
  rw [num_eq s, num_eq t, hb]
  omega

structure Inv (R : RP) : Prop where
  n1 : 1 ≤ R.n
  n2 : R.n ≤ 256
  obj : ∀ o ∈ R.O, 2 ≤ o.kind ∧ o.kind ≤ 8 ∧ 0 ≤ o.num ∧ o.num < R.n
  ond : (R.O.map (·.num)).Nodup
  reg : ∀ g ∈ R.G, okReg R.n g.num ∧ 0 ≤ g.mark ∧ g.mark ≤ size g.num
  gnd : (R.G.map (·.num)).Nodup
  oin : ∀ g ∈ R.G, ∀ o ∈ R.O, base g.num ≤ o.num → o.num < base g.num + size g.num → o.num < base g.num + g.mark
  gin : ∀ g ∈ R.G, ∀ h ∈ R.G, size h.num < size g.num → base g.num ≤ base h.num → base h.num < base g.num + size g.num → base h.num + size h.num ≤ base g.num + g.mark

/-! ### What is where -/
theorem RP.reg_mem {R : RP} {t : Int} {g : Rg} (h : R.reg t = some g) : g ∈ R.G ∧ g.num = t :=
  ⟨List.mem_of_find?_eq_some h, by have := List.find?_some h; simpa using this⟩
theorem RP.reg_none {R : RP} {t : Int} : R.reg t = none ↔ ∀ g ∈ R.G, g.num ≠ t := by
  unfold RP.reg; rw [List.find?_eq_none]; simp
theorem find_nodup {α : Type} {f : α → Int} : ∀ {l : List α} {a : α}, (l.map f).Nodup → a ∈ l → l.find? (fun x => f x == f a) = some a
  | x :: l, a, hn, ha => by
    rw [List.map_cons, List.nodup_cons] at hn
    rw [List.find?_cons]
    rcases List.mem_cons.1 ha with rfl | h
    · simp
    · have : f x ≠ f a := fun e => hn.1 (by rw [e]; exact List.mem_map_of_mem h)
      have e : (f x == f a) = false := by simpa using this
      rw [e]
      exact find_nodup hn.2 h
theorem RP.reg_of {R : RP} (h : Inv R) {g : Rg} (hg : g ∈ R.G) : R.reg g.num = some g := find_nodup (f := Rg.num) h.gnd hg
theorem RP.at_of {R : RP} (h : Inv R) {o : Ob} (ho : o ∈ R.O) : R.at o.num = o := by
  unfold RP.at
  rw [find_nodup (f := Ob.num) h.ond ho]; rfl
theorem RP.at_none {R : RP} {i : Int} (h : ∀ o ∈ R.O, o.num ≠ i) : R.at i = ⟨0, 0⟩ := by
  unfold RP.at
  rw [List.find?_eq_none.2 (by simpa using h)]; rfl
/-- A page: nobody's, or an object's. -/
theorem RP.at_cases (R : RP) (i : Int) : (R.at i = ⟨0, 0⟩ ∧ ∀ o ∈ R.O, o.num ≠ i) ∨ (R.at i ∈ R.O ∧ (R.at i).num = i) := by
  unfold RP.at
  cases h : R.O.find? fun o => o.num == i with
  | none => left; rw [List.find?_eq_none] at h; exact ⟨rfl, by simpa using h⟩
  | some o => right; exact ⟨List.mem_of_find?_eq_some h, by have := List.find?_some h; simpa using this⟩
theorem RP.at_kind {R : RP} (h : Inv R) (i : Int) : (R.at i).kind ≠ 0 ↔ ∃ o ∈ R.O, o.num = i := by
  rcases R.at_cases i with ⟨h1, h2⟩ | ⟨h1, h2⟩
  · rw [h1]; simp; exact h2
  · have := (h.obj _ h1).1
    exact ⟨fun _ => ⟨_, h1, h2⟩, fun _ => by omega⟩
theorem RP.hitO_iff (R : RP) (a n : Int) : R.hitO a n = true ↔ ∃ o ∈ R.O, a ≤ o.num ∧ o.num < a + n := by
  unfold RP.hitO
  rw [List.any_eq_true]
  constructor
  · rintro ⟨o, ho, h⟩; rw [meets_iff] at h; exact ⟨o, ho, by omega, by omega⟩
  · rintro ⟨o, ho, h⟩; exact ⟨o, ho, (meets_iff ..).2 ⟨by omega, by omega⟩⟩
theorem RP.hitG_iff (R : RP) (a n : Int) : R.hitG a n = true ↔ ∃ g ∈ R.G, a < base g.num + size g.num ∧ base g.num < a + n := by
  unfold RP.hitG
  rw [List.any_eq_true]
  simp only [meets_iff]
/-- A smaller untyped that meets one lies within it. -/
theorem Inv.within {R : RP} (h : Inv R) {g k : Rg} (hg : g ∈ R.G) (hk : k ∈ R.G) (hs : size k.num < size g.num) (h1 : base g.num < base k.num + size k.num) (h2 : base k.num < base g.num + size g.num) :
    base g.num ≤ base k.num ∧ base k.num + size k.num ≤ base g.num + size g.num :=
  nest (size_pos _) (size_dvd (Int.le_of_lt hs)) (h.reg g hg).1.2.2.1 (h.reg k hk).1.2.2.1 h1 h2
theorem RP.lieG_iff {R : RP} (h : Inv R) {g : Rg} (hg : g ∈ R.G) : R.lieG g.num = true ↔ ∃ k ∈ R.G, size k.num < size g.num ∧ base g.num ≤ base k.num ∧ base k.num < base g.num + size g.num := by
  unfold RP.lieG
  rw [List.any_eq_true]
  constructor
  · rintro ⟨k, hk, hh⟩
    simp only [Bool.and_eq_true, meets_iff, decide_eq_true_eq] at hh
    have := h.within hg hk hh.2 hh.1.1 hh.1.2
    exact ⟨k, hk, hh.2, this.1, hh.1.2⟩
  · rintro ⟨k, hk, h1, h2, h3⟩
    refine ⟨k, hk, ?_⟩
    have := size_pos k.num
    simp only [Bool.and_eq_true, meets_iff, decide_eq_true_eq]
    exact ⟨⟨by omega, h3⟩, h1⟩

/-! ### What is kept -/
theorem Inv.new {n : Int} {R : RP} (h : RP.new n = some R) : Inv R ∧ R = ⟨n, [], []⟩ := by
  unfold RP.new at h
  split at h
  · cases h
  · rename_i hn
    simp at h; subst h
    exact ⟨⟨by simp; omega, by simp; omega, by simp, by simp, by simp, by simp, by simp, by simp⟩, rfl⟩
theorem nodup_filter_map {α : Type} {f : α → Int} {l : List α} (h : (l.map f).Nodup) (p : α → Bool) : ((l.filter p).map f).Nodup :=
  h.sublist (List.filter_sublist.map f)
theorem Inv.dropG {R : RP} (h : Inv R) (t : Int) : Inv (R.dropG t) := by
  have hm : ∀ g ∈ (R.dropG t).G, g ∈ R.G := fun g hg => (List.mem_filter.1 hg).1
  exact ⟨h.n1, h.n2, h.obj, h.ond, fun g hg => h.reg g (hm g hg), nodup_filter_map h.gnd _, fun g hg => h.oin g (hm g hg), fun g hg k hk => h.gin g (hm g hg) k (hm k hk)⟩
theorem Inv.dropO {R : RP} (h : Inv R) (o : Ob) : Inv (R.dropO o) := by
  have hm : ∀ p ∈ (R.dropO o).O, p ∈ R.O := fun g hg => (List.mem_filter.1 hg).1
  exact ⟨h.n1, h.n2, fun p hp => h.obj p (hm p hp), nodup_filter_map h.ond _, h.reg, h.gnd, fun g hg p hp => h.oin g hg p (hm p hp), h.gin⟩

/-- A new thing: what must be so ahead of it. -/
structure Fresh (R : RP) (o : Ob) : Prop where
  kind : 1 ≤ o.kind ∧ o.kind ≤ 8
  ok1 : o.kind = 1 → okReg R.n o.num
  ok2 : o.kind ≠ 1 → 0 ≤ o.num ∧ o.num < R.n
  noO : ∀ p ∈ R.O, ¬ (first o ≤ p.num ∧ p.num < first o + pages o)
  noG : o.kind = 1 → ∀ g ∈ R.G, g.num ≠ o.num
  inG : ∀ g ∈ R.G, (first o < base g.num + size g.num ∧ base g.num < first o + pages o) → pages o ≤ size g.num ∧ first o + pages o ≤ base g.num + g.mark ∧ base g.num ≤ first o ∧ (o.kind = 1 → pages o < size g.num)
theorem first_region {o : Ob} (h : o.kind = 1) : Vk.Pool.first o = base o.num ∧ Vk.Pool.pages o = size o.num := by simp [Vk.Pool.first, Vk.Pool.pages, h]
theorem first_other {o : Ob} (h : o.kind ≠ 1) : first o = o.num ∧ pages o = 1 := by simp [first, pages, h]
theorem size_zero : size 0 = 1 := rfl
theorem Inv.put1 {R : RP} (h : Inv R) {o : Ob} (f : Fresh R o) : Inv (R.put1 o) := by
  unfold RP.put1
  by_cases hk : o.kind = 1
  · rw [if_pos hk]
    have hok := f.ok1 hk
    obtain ⟨e1, e2⟩ := first_region hk
    have hnoO := f.noO
    have hin := f.inG
    rw [e1, e2] at hnoO hin
    have hp := size_pos o.num
    refine ⟨h.n1, h.n2, h.obj, h.ond, fun g hg => ?_, ?_, fun g hg p hp => ?_, fun g hg k hk2 => ?_⟩
    · rcases List.mem_append.1 hg with hg | hg
      · exact h.reg g hg
      · simp at hg; subst hg; exact ⟨hok, Int.le_refl _, Int.le_of_lt (size_pos _)⟩
    · rw [List.map_append, List.nodup_append]
      refine ⟨h.gnd, by simp, fun a ha b hb => ?_⟩
      simp at hb; subst hb
      obtain ⟨g, hg, rfl⟩ := List.mem_map.1 ha
      exact f.noG hk g hg
    · rcases List.mem_append.1 hg with hg | hg
      · exact h.oin g hg p hp
      · simp at hg; subst hg
        intro h1 h2
        exact absurd ⟨h1, h2⟩ (hnoO p hp)
    · intro hs h1 h2
      rcases List.mem_append.1 hg with hg | hg
      · rcases List.mem_append.1 hk2 with hk2 | hk2
        · exact h.gin g hg k hk2 hs h1 h2
        · simp at hk2; subst hk2
          simp only at hs h1 h2 ⊢
          exact (hin g hg ⟨h2, by omega⟩).2.1
      · simp at hg; subst hg
        simp only at hs h1 h2 ⊢
        rcases List.mem_append.1 hk2 with hk2 | hk2
        · have hkp := size_pos k.num
          have := hin k hk2 ⟨by omega, h2⟩
          omega
        · simp at hk2; subst hk2; simp at hs
  · rw [if_neg hk]
    obtain ⟨e1, e2⟩ := first_other hk
    have hnoO := f.noO
    have hin := f.inG
    rw [e1, e2] at hnoO hin
    refine ⟨h.n1, h.n2, fun p hp => ?_, ?_, h.reg, h.gnd, fun g hg p hp => ?_, h.gin⟩
    · rcases List.mem_append.1 hp with hp | hp
      · exact h.obj p hp
      · simp at hp; subst hp
        have := f.kind
        have := f.ok2 hk
        refine ⟨by omega, by omega, this.1, this.2⟩
    · rw [List.map_append, List.nodup_append]
      refine ⟨h.ond, by simp, fun a ha b hb => ?_⟩
      simp at hb; subst hb
      obtain ⟨p, hp, rfl⟩ := List.mem_map.1 ha
      intro e
      exact hnoO p hp ⟨by omega, by omega⟩
    · intro h1 h2
      rcases List.mem_append.1 hp with hp | hp
      · exact h.oin g hg p hp h1 h2
      · simp at hp; subst hp
        have := hin g hg ⟨h2, by omega⟩
        omega

theorem hits_none {R : RP} {a n : Int} (h : ¬ ((R.hitO a n || R.hitG a n) = true)) : (∀ p ∈ R.O, ¬ (a ≤ p.num ∧ p.num < a + n)) ∧ ∀ g ∈ R.G, ¬ (a < base g.num + size g.num ∧ base g.num < a + n) := by
  rw [Bool.or_eq_true, not_or, RP.hitO_iff, RP.hitG_iff] at h
  exact ⟨fun p hp hh => h.1 ⟨p, hp, hh⟩, fun g hg hh => h.2 ⟨g, hg, hh⟩⟩
/-- What Add lets in is fresh. -/
theorem fresh_add {R : RP} (h : Inv R) {o : Ob} (h1 : ¬ (o.kind < 1 ∨ 8 < o.kind)) (h2 : ¬ (o.num < 0 ∨ o.kind = 1 ∧ 8 < o.num / 256)) (h3 : ¬ (first o % pages o ≠ 0 ∨ R.n - pages o < first o))
    (h4 : ¬ ((R.hitO (first o) (pages o) || R.hitG (first o) (pages o)) = true)) : Fresh R o := by
  obtain ⟨h5, h6⟩ := hits_none h4
  refine ⟨by omega, fun hk => ?_, fun hk => ?_, h5, fun hk g hg e => ?_, fun g hg hh => absurd hh (h6 g hg)⟩
  · obtain ⟨e1, e2⟩ := first_region hk
    rw [e1, e2] at h3
    exact ⟨by omega, by omega, Int.dvd_of_emod_eq_zero (by omega), by omega⟩
  · obtain ⟨e1, e2⟩ := first_other hk
    rw [e1, e2] at h3
    omega
  · obtain ⟨e1, e2⟩ := first_region hk
    apply h6 g hg
    rw [e1, e2, e]
    have := size_pos o.num
    omega
theorem Inv.add {R : RP} (h : Inv R) (o : Ob) : Inv (R.add o).2 := by
  unfold RP.add
  split
  · exact h
  split
  · exact h
  split
  · exact h
  split
  · exact h
  · exact h.put1 (fresh_add h ‹_› ‹_› ‹_› ‹_›)
theorem Inv.remove {R : RP} (h : Inv R) (o : Ob) : Inv (R.remove o).2 := by
  unfold RP.remove
  split
  · split
    · exact h
    · split
      · exact h
      · exact h.dropG _
  · split
    · exact h.dropO _
    · exact h

/-! ### Give -/
theorem setMark_mem {R : RP} {t m : Int} {g : Rg} (h : g ∈ (R.setMark t m).G) : ∃ k ∈ R.G, k.num = g.num ∧ g.mark = if k.num = t then m else k.mark := by
  unfold RP.setMark at h
  rw [List.mem_map] at h
  obtain ⟨k, hk, rfl⟩ := h
  refine ⟨k, hk, ?_⟩
  by_cases e : k.num = t
  · simp [e]
  · simp [e]
theorem setMark_nums (R : RP) (t m : Int) : (R.setMark t m).G.map (·.num) = R.G.map (·.num) := by
  unfold RP.setMark
  rw [List.map_map]
  apply List.map_congr_left
  intro g _
  simp only [Function.comp]
  split
  · rename_i e; simp [e]
  · rfl
theorem setMark_set {R : RP} (t m m2 : Int) : (R.setMark t m).setMark t m2 = R.setMark t m2 := by
  unfold RP.setMark
  simp only [List.map_map]
  congr 1
  apply List.map_congr_left
  intro g _
  simp only [Function.comp]
  by_cases e : g.num = t <;> simp [e]
theorem setMark_put1 {R : RP} {t m : Int} {o : Ob} (h : o.num ≠ t ∨ o.kind ≠ 1) : (R.put1 o).setMark t m = (R.setMark t m).put1 o := by
  unfold RP.put1
  by_cases e : o.kind = 1
  · rw [if_pos e, if_pos e]
    unfold RP.setMark
    simp only [List.map_append, List.map_cons, List.map_nil]
    rw [if_neg (by rcases h with h | h; exact h; exact absurd e h)]
  · rw [if_neg e, if_neg e]; rfl
/-- The mark goes up to where nothing lies behind it. -/
theorem Inv.setMark {R : RP} (h : Inv R) {g : Rg} (hg : g ∈ R.G) {m : Int} (h0 : 0 ≤ m) (h1 : m ≤ size g.num) (h2 : ∀ o ∈ R.O, base g.num ≤ o.num → o.num < base g.num + size g.num → o.num < base g.num + m)
    (h3 : ∀ k ∈ R.G, size k.num < size g.num → base g.num ≤ base k.num → base k.num < base g.num + size g.num → base k.num + size k.num ≤ base g.num + m) : Inv (R.setMark g.num m) := by
  refine ⟨h.n1, h.n2, h.obj, h.ond, fun k hk => ?_, by rw [setMark_nums]; exact h.gnd, fun k hk o ho => ?_, fun k hk j hj => ?_⟩
  · obtain ⟨k', hk', e1, e2⟩ := setMark_mem hk
    rw [← e1, e2]
    have := h.reg k' hk'
    refine ⟨this.1, ?_⟩
    split
    · rename_i e; rw [e]; exact ⟨h0, h1⟩
    · exact this.2
  · obtain ⟨k', hk', e1, e2⟩ := setMark_mem hk
    rw [← e1, e2]
    split
    · rename_i e; rw [e]; exact h2 o ho
    · exact h.oin k' hk' o ho
  · obtain ⟨k', hk', e1, e2⟩ := setMark_mem hk
    obtain ⟨j', hj', f1, f2⟩ := setMark_mem hj
    rw [← e1, e2, ← f1]
    split
    · rename_i e; rw [e]; exact h3 j' hj'
    · exact h.gin k' hk' j' hj'
/-- One thing is given out of an untyped at its mark: it is fresh. -/
theorem give_fresh {R : RP} (h : Inv R) {g : Rg} (hg : g ∈ R.G) {o : Ob} {n : Int} (hn : 0 < n) (hk : 1 ≤ o.kind ∧ o.kind ≤ 8) (hf : first o = base g.num + g.mark) (hp : pages o = n) (hroom : g.mark + n ≤ size g.num)
    (h1 : o.kind = 1 → 0 ≤ o.num ∧ o.num / 256 ≤ 8 ∧ n < size g.num ∧ n ∣ g.mark ∧ n ∣ base g.num) : Fresh (R.setMark g.num (g.mark + n)) o := by
  have hgr := h.reg g hg
  have hgs := size_pos g.num
  have hb := base_nonneg g.num
  obtain ⟨hm0, hm1⟩ := hgr.2
  have hgn := hgr.1.2.2.2
  have key : ∀ q ∈ R.G, (first o < base q.num + size q.num ∧ base q.num < first o + pages o) → n ≤ size q.num ∧ first o + n ≤ base q.num + (if q.num = g.num then g.mark + n else q.mark) ∧ base q.num ≤ first o ∧ (o.kind = 1 → n < size q.num) := by
    intro q hq hh
    rw [hp] at hh
    by_cases e : q.num = g.num
    · rw [if_pos e, e]
      exact ⟨by omega, by omega, by omega, fun hk1 => (h1 hk1).2.2.1⟩
    · rw [if_neg e]
      have hqr := h.reg q hq
      have hqp := size_pos q.num
      rcases Int.lt_trichotomy (size q.num) (size g.num) with hlt | heq | hgt
      · have hw := h.within hg hq hlt (by omega) (by omega)
        have := h.gin g hg q hq hlt hw.1 (by omega)
        omega
      · exact absurd (same_num hqr.1 hgr.1 heq (by omega) (by omega)) e
      · have hw := h.within hq hg hgt (by omega) (by omega)
        have := h.gin q hq g hg hgt hw.1 (by omega)
        exact ⟨by omega, by omega, by omega, fun hk1 => by have := (h1 hk1).2.2.1; omega⟩
  refine ⟨hk, fun hk1 => ?_, fun hk1 => ?_, fun p hpo hh => ?_, fun hk1 q hq e => ?_, fun q hq hh => ?_⟩
  · obtain ⟨e1, e2⟩ := first_region hk1
    obtain ⟨a1, a2, a3, a4, a5⟩ := h1 hk1
    refine ⟨a1, a2, ?_, ?_⟩
    · rw [← e1, ← e2, hf, hp]; exact Int.dvd_add a5 a4
    · show base o.num + size o.num ≤ R.n
      rw [← e1, ← e2]; omega
  · obtain ⟨e1, e2⟩ := first_other hk1
    show 0 ≤ o.num ∧ o.num < R.n
    rw [← e1]; omega
  · have := h.oin g hg p hpo (by omega) (by omega)
    omega
  · obtain ⟨e1, e2⟩ := first_region hk1
    obtain ⟨q', hq', f1, f2⟩ := setMark_mem hq
    have := key q' hq' (by rw [e1, e2, f1, e]; have := size_pos o.num; omega)
    have h4 := this.2.2.2 hk1
    rw [f1, e, ← e2, hp] at h4
    omega
  · obtain ⟨q', hq', f1, f2⟩ := setMark_mem hq
    rw [← f1] at hh ⊢
    have := key q' hq' hh
    rw [f2, hp]
    exact this

theorem upTo_dvd {m n : Int} : n ∣ upTo m n := Int.dvd_mul_left _ _
theorem upTo_le {m n : Int} (hn : 0 < n) : m ≤ upTo m n ∧ upTo m n < m + n := by
  unfold upTo
  have h1 := Int.emod_add_mul_ediv (m + n - 1) n
  have h2 := Int.emod_nonneg (m + n - 1) (b := n) (by omega)
  have h3 := Int.emod_lt_of_pos (m + n - 1) hn
  rw [Int.mul_comm] at h1
  omega
theorem upTo_zero {n : Int} (hn : 0 < n) : upTo 0 n = 0 := by
  unfold upTo
  rw [Int.ediv_eq_zero_of_lt (by omega) (by omega), Int.zero_mul]
theorem lies_false {R : RP} (h : Inv R) {g : Rg} (hg : g ∈ R.G) (hl : R.lies g.num = false) : (∀ o ∈ R.O, base g.num ≤ o.num → o.num < base g.num + size g.num → False) ∧
    ∀ k ∈ R.G, size k.num < size g.num → base g.num ≤ base k.num → base k.num < base g.num + size g.num → False := by
  unfold RP.lies at hl
  rw [Bool.or_eq_false_iff] at hl
  refine ⟨fun o ho h1 h2 => ?_, fun k hk h1 h2 h3 => ?_⟩
  · have := (R.hitO_iff (base g.num) (size g.num)).2 ⟨o, ho, h1, h2⟩
    rw [hl.1] at this; cases this
  · have := (RP.lieG_iff h hg).2 ⟨k, hk, h1, h2, h3⟩
    rw [hl.2] at this; cases this
theorem news_succ (b kind order : Int) (j : Nat) : news b kind order (j + 1) = news b kind order j ++ [new1 b kind order j] := by
  unfold news; rw [List.range_succ, List.map_append]; rfl
theorem puts_snoc (R : RP) (l : List Ob) (o : Ob) : R.puts (l ++ [o]) = (R.puts l).put1 o := by unfold RP.puts; rw [List.foldl_append]; rfl
theorem puts_n (R : RP) : ∀ (l : List Ob), (R.puts l).n = R.n
  | [] => rfl
  | o :: l => by
    show ((R.put1 o).puts l).n = R.n
    rw [puts_n (R.put1 o) l]
    unfold RP.put1; split <;> rfl

theorem new1_one {b order : Int} {j : Nat} (h0 : 0 ≤ order) (hb : 0 ≤ b) (hb2 : b + j * 2 ^ order.toNat < 256) :
    base (new1 b 1 order j).num = b + j * 2 ^ order.toNat ∧ (new1 b 1 order j).num / 256 = order ∧ size (new1 b 1 order j).num = 2 ^ order.toNat ∧ 0 ≤ (new1 b 1 order j).num := by
  have hp : (0 : Int) ≤ j * 2 ^ order.toNat := Int.mul_nonneg (by omega) (Int.le_of_lt (Int.pow_pos (by decide)))
  unfold new1 base size
  simp only [if_true]
  generalize (j : Int) * 2 ^ order.toNat = x at *
  have : (b + x + 256 * order) / 256 = order := by omega
  rw [this]
  exact ⟨by omega, rfl, rfl, by omega⟩
theorem new1_geo {b kind order : Int} {j : Nat} (h0 : 0 ≤ order) (hk : kind ≠ 1 → order = 0) (hb : 0 ≤ b) (hb2 : b + j * 2 ^ order.toNat < 256) :
    first (new1 b kind order j) = b + j * 2 ^ order.toNat ∧ pages (new1 b kind order j) = 2 ^ order.toNat := by
  by_cases e : kind = 1
  · subst e
    obtain ⟨a1, a2, a3, a4⟩ := new1_one h0 hb hb2
    obtain ⟨e1, e2⟩ := first_region (o := new1 b 1 order j) rfl
    rw [e1, e2]; exact ⟨a1, a3⟩
  · obtain ⟨e1, e2⟩ := first_other (o := new1 b kind order j) e
    rw [e1, e2, hk e]
    unfold new1
    rw [if_neg e]
    exact ⟨by simp, rfl⟩

/-- What Give's checks let through. -/
structure GiveOk (R : RP) (g : Rg) (kind order : Int) (many : Nat) : Prop where
  mem : g ∈ R.G
  kd : 1 ≤ kind ∧ kind ≤ 8
  o0 : 0 ≤ order
  o8 : order ≤ 8
  ok : kind ≠ 1 → order = 0
  less : kind = 1 → 2 ^ order.toNat < size g.num
  room : R.from g order + many * 2 ^ order.toNat ≤ size g.num

section
variable {R : RP} {g : Rg} {kind order : Int} {many : Nat}
theorem GiveOk.pow (_ : GiveOk R g kind order many) : (0 : Int) < 2 ^ order.toNat := Int.pow_pos (by decide)
theorem GiveOk.from0 (k : GiveOk R g kind order many) (h : Inv R) : 0 ≤ R.from g order := by
  have hm := (h.reg g k.mem).2.1
  have := @upTo_le (if R.lies g.num then g.mark else 0) _ k.pow
  unfold RP.from
  split at this
  · rename_i e; rw [if_pos e]; omega
  · rename_i e; rw [if_neg e]; omega
/-- Behind the mark from which it goes on nothing lies. -/
theorem GiveOk.start (k : GiveOk R g kind order many) (h : Inv R) : Inv (R.setMark g.num (R.from g order)) := by
  have h0 := k.from0 h
  have hroom := k.room
  have hp := k.pow
  have hmul : (0 : Int) ≤ many * 2 ^ order.toNat := Int.mul_nonneg (by omega) (by omega)
  by_cases hl : R.lies g.num = true
  · have hle : g.mark ≤ R.from g order := by
      unfold RP.from; rw [if_pos hl]; exact (upTo_le k.pow).1
    refine h.setMark k.mem h0 (by omega) (fun o ho h1 h2 => ?_) (fun q hq h1 h2 h3 => ?_)
    · have := h.oin g k.mem o ho h1 h2; omega
    · have := h.gin g k.mem q hq h1 h2 h3; omega
  · have hl' : R.lies g.num = false := by simpa using hl
    obtain ⟨h1, h2⟩ := lies_false h k.mem hl'
    exact h.setMark k.mem h0 (by omega) (fun o ho a b => (h1 o ho a b).elim) (fun q hq a b c => (h2 q hq a b c).elim)
theorem setMark_self_mem {R : RP} {g : Rg} (hg : g ∈ R.G) (m : Int) : (⟨g.num, m⟩ : Rg) ∈ (R.setMark g.num m).G := by
  unfold RP.setMark
  rw [List.mem_map]
  exact ⟨g, hg, by simp⟩
theorem put1_mem {R : RP} {o : Ob} {g : Rg} (hg : g ∈ R.G) : g ∈ (R.put1 o).G := by
  unfold RP.put1; split
  · exact List.mem_append_left _ hg
  · exact hg
theorem puts_mem : ∀ (l : List Ob) {R : RP} {g : Rg}, g ∈ R.G → g ∈ (R.puts l).G
  | [], _, _, h => h
  | _ :: l, _, _, h => puts_mem l (put1_mem h)

theorem GiveOk.bound (k : GiveOk R g kind order many) (h : Inv R) {j : Nat} (hj : j < many) : (j : Int) * 2 ^ order.toNat + 2 ^ order.toNat ≤ many * 2 ^ order.toNat := by
  have hp := k.pow
  have : ((j : Int) + 1) * 2 ^ order.toNat ≤ many * 2 ^ order.toNat := Int.mul_le_mul_of_nonneg_right (by omega) (by omega)
  rw [Int.add_mul, Int.one_mul] at this
  exact this
theorem GiveOk.mid (k : GiveOk R g kind order many) (h : Inv R) {j : Nat} (hj : j < many) (hI : Inv ((R.puts (news (base g.num + R.from g order) kind order j)).setMark g.num (R.from g order + j * 2 ^ order.toNat))) :
    Inv ((R.puts (news (base g.num + R.from g order) kind order j)).setMark g.num (R.from g order + j * 2 ^ order.toNat + 2 ^ order.toNat)) := by
  have h0 := k.from0 h
  have hbd := k.bound h hj
  have hroom := k.room
  have hp := k.pow
  have hjn : (0 : Int) ≤ j * 2 ^ order.toNat := Int.mul_nonneg (by omega) (by omega)
  have hmem := setMark_self_mem (puts_mem (news (base g.num + R.from g order) kind order j) k.mem) (R.from g order + j * 2 ^ order.toNat)
  have := hI.setMark hmem (m := R.from g order + j * 2 ^ order.toNat + 2 ^ order.toNat) (by omega) (by simp only; omega) (fun o ho h1 h2 => by have := hI.oin _ hmem o ho h1 h2; simp only at *; omega) (fun q hq h1 h2 h3 => by have := hI.gin _ hmem q hq h1 h2 h3; simp only at *; omega)
  rw [setMark_set] at this
  exact this
/-- A step of Give. -/
theorem GiveOk.step (k : GiveOk R g kind order many) (h : Inv R) {j : Nat} (hj : j < many) (hI : Inv ((R.puts (news (base g.num + R.from g order) kind order j)).setMark g.num (R.from g order + j * 2 ^ order.toNat))) :
    Fresh ((R.puts (news (base g.num + R.from g order) kind order j)).setMark g.num (R.from g order + j * 2 ^ order.toNat + 2 ^ order.toNat)) (new1 (base g.num + R.from g order) kind order j) ∧
    ((new1 (base g.num + R.from g order) kind order j).num ≠ g.num ∨ kind ≠ 1) ∧
    Inv ((R.puts (news (base g.num + R.from g order) kind order (j + 1))).setMark g.num (R.from g order + (j + 1 : Nat) * 2 ^ order.toNat)) := by
  have h0 := k.from0 h
  have hb := base_nonneg g.num
  have hgr := (h.reg g k.mem).1
  have hgn := hgr.2.2.2
  have hn2 := h.n2
  have hbd := k.bound h hj
  have hroom := k.room
  have hp := k.pow
  have hdf : (2 : Int) ^ order.toNat ∣ R.from g order := upTo_dvd
  have hjn : (0 : Int) ≤ j * 2 ^ order.toNat := Int.mul_nonneg (by omega) (by omega)
  have hlt : base g.num + R.from g order + j * 2 ^ order.toNat < 256 := by omega
  obtain ⟨e1, e2⟩ := new1_geo (kind := kind) (j := j) k.o0 k.ok (b := base g.num + R.from g order) (by omega) hlt
  have hmem := setMark_self_mem (puts_mem (news (base g.num + R.from g order) kind order j) k.mem) (R.from g order + j * 2 ^ order.toNat)
  have hdiv : (2 : Int) ^ order.toNat ∣ base g.num := by
    by_cases ek : kind = 1
    · exact Int.dvd_trans (pow_dvd (pow_le_iff.1 (Int.le_of_lt (k.less ek)))) hgr.2.2.1
    · rw [k.ok ek]; exact Int.one_dvd _
  have hF := give_fresh hI hmem (o := new1 (base g.num + R.from g order) kind order j) hp k.kd (by rw [e1]; simp only; omega) e2 (by simp only; omega) (fun hk1 => by
    have hk1' : kind = 1 := hk1
    have hless := k.less hk1'
    subst hk1'
    obtain ⟨a1, a2, a3, a4⟩ := new1_one (b := base g.num + R.from g order) (j := j) k.o0 (by omega) hlt
    refine ⟨a4, by rw [a2]; exact k.o8, hless, ?_, hdiv⟩
    exact Int.dvd_add hdf (Int.dvd_mul_left _ _))
  simp only at hF
  rw [setMark_set] at hF
  have hne : (new1 (base g.num + R.from g order) kind order j).num ≠ g.num ∨ kind ≠ 1 := by
    by_cases ek : kind = 1
    · left
      intro e
      have hless := k.less ek
      subst ek
      obtain ⟨a1, a2, a3, a4⟩ := new1_one (b := base g.num + R.from g order) (j := j) k.o0 (by omega) hlt
      rw [e] at a3
      omega
    · exact .inr ek
  refine ⟨hF, hne, ?_⟩
  rw [news_succ, puts_snoc, setMark_put1 hne, show R.from g order + ((j + 1 : Nat) : Int) * 2 ^ order.toNat = R.from g order + j * 2 ^ order.toNat + 2 ^ order.toNat by rw [Int.natCast_add, Int.add_mul]; simp; omega]
  refine Inv.put1 ?_ hF
  have := hI.setMark hmem (m := R.from g order + j * 2 ^ order.toNat + 2 ^ order.toNat) (by omega) (by simp only; omega) (fun o ho h1 h2 => by have := hI.oin _ hmem o ho h1 h2; simp only at *; omega) (fun q hq h1 h2 h3 => by have := hI.gin _ hmem q hq h1 h2 h3; simp only at *; omega)
  rw [setMark_set] at this
  exact this
theorem GiveOk.chain (k : GiveOk R g kind order many) (h : Inv R) : ∀ j, j ≤ many → Inv ((R.puts (news (base g.num + R.from g order) kind order j)).setMark g.num (R.from g order + j * 2 ^ order.toNat))
  | 0, _ => by simpa [news, RP.puts] using k.start h
  | j + 1, hj => (k.step h (by omega) (k.chain h j (by omega))).2.2
/-- What a step of Give finds. -/
theorem GiveOk.at (k : GiveOk R g kind order many) (h : Inv R) {j : Nat} (hj : j < many) :
    (kind = 1 → ∀ q ∈ (R.puts (news (base g.num + R.from g order) kind order j)).G, q.num ≠ (new1 (base g.num + R.from g order) kind order j).num) ∧
    (kind ≠ 1 → (∀ p ∈ (R.puts (news (base g.num + R.from g order) kind order j)).O, p.num ≠ (new1 (base g.num + R.from g order) kind order j).num) ∧ 0 ≤ (new1 (base g.num + R.from g order) kind order j).num ∧ (new1 (base g.num + R.from g order) kind order j).num < R.n) ∧
    ((new1 (base g.num + R.from g order) kind order j).num ≠ g.num ∨ kind ≠ 1) ∧
    (kind = 1 → base (new1 (base g.num + R.from g order) kind order j).num = base g.num + R.from g order + j * 2 ^ order.toNat ∧ (new1 (base g.num + R.from g order) kind order j).num / 256 = order) := by
  obtain ⟨hF, hne, _⟩ := k.step h hj (k.chain h j (by omega))
  have h0 := k.from0 h
  have hb := base_nonneg g.num
  have hgr := (h.reg g k.mem).1
  have hgn := hgr.2.2.2
  have hn2 := h.n2
  have hbd := k.bound h hj
  have hroom := k.room
  have hp := k.pow
  refine ⟨fun hk q hq e => ?_, fun hk => ⟨fun p hpo e => ?_, ?_⟩, hne, fun hk => ?_⟩
  · have : ∃ q' ∈ ((R.puts (news (base g.num + R.from g order) kind order j)).setMark g.num (R.from g order + j * 2 ^ order.toNat + 2 ^ order.toNat)).G, q'.num = q.num := by
      have h1 := setMark_nums (R.puts (news (base g.num + R.from g order) kind order j)) g.num (R.from g order + j * 2 ^ order.toNat + 2 ^ order.toNat)
      have h2 : q.num ∈ ((R.puts (news (base g.num + R.from g order) kind order j)).setMark g.num (R.from g order + j * 2 ^ order.toNat + 2 ^ order.toNat)).G.map (·.num) := by rw [h1]; exact List.mem_map_of_mem hq
      obtain ⟨q', h3, h4⟩ := List.mem_map.1 h2
      exact ⟨q', h3, h4⟩
    obtain ⟨q', h1, h2⟩ := this
    exact hF.noG hk q' h1 (h2.trans e)
  · have := hF.noO p hpo
    obtain ⟨e1, e2⟩ := first_other (o := new1 (base g.num + R.from g order) kind order j) hk
    rw [e1, e2] at this
    omega
  · have := hF.ok2 hk
    have hn : ((R.puts (news (base g.num + R.from g order) kind order j)).setMark g.num (R.from g order + j * 2 ^ order.toNat + 2 ^ order.toNat)).n = R.n := puts_n R _
    rw [hn] at this
    exact this
  · subst hk
    obtain ⟨a1, a2, _⟩ := new1_one (b := base g.num + R.from g order) (j := j) k.o0 (by omega) (by omega)
    exact ⟨a1, a2⟩
end
theorem Inv.give {R : RP} (h : Inv R) (num kind order many : Int) : Inv (R.give num kind order many).2 := by
  unfold RP.give
  split
  · exact h
  split
  · exact h
  split
  · exact h
  · rename_i g hr
    obtain ⟨hg, rfl⟩ := R.reg_mem hr
    split
    · exact h
    · rename_i h1 h2 h3
      have k : GiveOk R g kind order many.toNat := ⟨hg, by omega, by omega, by omega, by omega, fun e => by omega, by
        have : (many.toNat : Int) = many := by omega
        rw [this]; omega⟩
      have := k.chain h _ (Nat.le_refl _)
      have e : (many.toNat : Int) = many := by omega
      rw [e] at this
      exact this
