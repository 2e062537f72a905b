/-
  Contracts of the lines of ints (fifo.Line[int]) and of slices.IndexFunc, DeleteFunc over them. No condition.
-/
import Derived.Test.YtaniphdbebdhhaaVc1
import Derived.Test.YtaniphdbebdhhaaVkInst
import Derived.Test.YtaniphdbebdhhaaVkRow
namespace Go.Proofs.Ytaniphdbebdhhaa
open Go.Vk

/-- Numbers as cells. -/
def nums (l : List Int) : List Value := l.map fun x => .int .i64 x
@[simp] theorem nums_length (l : List Int) : (nums l).length = l.length := by simp [nums]
@[simp] theorem nums_nil : nums [] = [] := rfl
@[simp] theorem nums_append (a b : List Int) : nums (a ++ b) = nums a ++ nums b := by simp [nums]
theorem nums_get (l : List Int) (i : Nat) : (nums l)[i]? = (l[i]?).map fun x => .int .i64 x := by simp [nums]

/-- The closure 'is it this one?'. -/
theorem same_calls {w : World} {b : Nat} {t x : Int} {T : TypeId} {fr : Nat × Nat} (hb : w.heap[b]? = some (.cells #[.int .i64 t] T fr)) :
    Calls Try.prog 127 #[.int .i64 x, .pointer (some ⟨b, 0, none⟩)] w fun en w' => en = .returned (.bool (x == t)) ∧ w' = w := by
  apply vk127
  simp [vc127, hb]

theorem len_calls {w : World} {x o : Nat} {cs : Array Value} {T : TypeId} {fr : Nat × Nat} {a : Option Addr} {n c : Nat} (hb : w.heap[x]? = some (.cells cs T fr)) (ho : cs[o]? = some (.slice a n c)) :
    Calls Try.prog 55 #[.pointer (some ⟨x, o, none⟩)] w fun en w' => en = .returned (.int .i64 n) ∧ w' = w := by
  apply vk55
  simp [vc55, hb, ho]

theorem enters127 : enters Try.prog 127 = true := by kernel_rfl
theorem opK_same (p x : Value) (ts : Array TypeId) (ty : TypeId) (w : World) (K : Value → World → Prop) :
    opK Try.prog (.call ⟨.value (.const (.func (.func 127) #[] #[p])), #[.const x], ts⟩) ty w K = callK Try.prog 127 #[x, p] w K := by
  rw [opK_callv enters127]
  simp [bare, Act.eval]

/-- Where the first one is, or -1. -/
def firstAt (t : Int) : List Int → Int
  | [] => -1
  | x :: l => if x = t then 0 else if firstAt t l = -1 then -1 else firstAt t l + 1

theorem firstAt_spec (t : Int) : ∀ (l : List Int), (firstAt t l = -1 ∧ t ∉ l) ∨ (0 ≤ firstAt t l ∧ firstAt t l < l.length ∧ l[(firstAt t l).toNat]? = some t ∧ t ∉ l.take (firstAt t l).toNat)
  | [] => by simp [firstAt]
  | x :: l => by
    unfold firstAt
    by_cases h : x = t
    · subst h; right; simp
    · rw [if_neg h]
      rcases firstAt_spec t l with ⟨h1, h2⟩ | ⟨h1, h2, h3, h4⟩
      · rw [if_pos h1]; left; exact ⟨rfl, by simp; exact ⟨fun e => h e.symm, h2⟩⟩
      · rw [if_neg (by omega)]
        right
        have e : (firstAt t l + 1).toNat = (firstAt t l).toNat + 1 := by omega
        refine ⟨by omega, by simp; omega, by rw [e]; simpa using h3, ?_⟩
        rw [e, List.take_succ_cons]
        simp
        exact ⟨fun e => h e.symm, h4⟩

theorem firstAt_eq (t : Int) (l : List Int) (i : Nat) (h1 : l[i]? = some t) (h2 : t ∉ l.take i) : firstAt t l = i := by
  rcases firstAt_spec t l with ⟨_, h⟩ | ⟨g1, g2, g3, g4⟩
  · exact absurd (List.mem_of_getElem? h1) h
  · rcases Nat.lt_trichotomy i (firstAt t l).toNat with hlt | heq | hgt
    · exact absurd (List.mem_iff_getElem?.2 ⟨i, by rw [List.getElem?_take, if_pos hlt]; exact h1⟩) g4
    · omega
    · exact absurd (List.mem_iff_getElem?.2 ⟨(firstAt t l).toNat, by rw [List.getElem?_take, if_pos hgt]; exact g3⟩) h2

theorem rowcell {xs : List Int} {rest : List Value} {i : Nat} (h : i < xs.length) : (nums xs ++ rest).toArray[i]? = some (.int .i64 xs[i]) := by
  simp [List.getElem?_append, h, nums]

theorem not_mem_take_succ {t : Int} {xs : List Int} {i : Nat} (h : i < xs.length) (h1 : t ∉ xs.take i) (h2 : xs[i] ≠ t) : t ∉ xs.take (i + 1) := by
  intro hm
  rw [List.take_succ_eq_append_getElem h] at hm
  rcases List.mem_append.1 hm with hm | hm
  · exact h1 hm
  · exact h2 (List.mem_singleton.1 hm).symm

theorem index_calls {w : World} {b : Nat} {t : Int} {Tb : TypeId} {fr : Nat × Nat} (hb : w.heap[b]? = some (.cells #[.int .i64 t] Tb fr)) {g : Nat} {xs : List Int} {rest : List Value} {n cap : Nat} {fr2 : Nat × Nat}
    (hg : w.heap[g]? = some (.cells (nums xs ++ rest).toArray 3 fr2)) (hn : xs.length = n) (hsmall : n ≤ 9223372036854775807) :
    Calls Try.prog 148 #[.slice (some ⟨g, 0, none⟩) n cap, .func (.func 127) #[] #[.pointer (some ⟨b, 0, none⟩)]] w fun en w' => en = .returned (.int .i64 (firstAt t xs)) ∧ w' = w := by
  apply vk148
  simp only [vc148, opK_len_69]
  refine loopK1 (fun m v w' => w' = w ∧ ∃ i : Nat, v = .int .i64 i ∧ i ≤ n ∧ m = n - i ∧ t ∉ xs.take i) n ⟨rfl, 0, rfl, by omega, by omega, by simp⟩ ?_
  rintro m v w' ⟨rfl, i, rfl, hi, rfl, hno⟩
  by_cases hlt : i < n
  · have hrow := rowcell (rest := rest) (xs := xs) (i := i) (by omega)
    simp [hlt, hg, hrow, opK_same]
    refine callK_of (same_calls hb) ?_
    rintro e w2 ⟨rfl, rfl⟩
    refine ⟨_, rfl, ?_⟩
    by_cases he : xs[i] = t
    · simp [he]
      exact (firstAt_eq t xs i (by rw [← he]; simp) hno).symm
    · have hw : IntKind.i64.wrap ((i : Int) + 1) = ((i + 1 : Nat) : Int) := by rw [wrap_i64 (by omega) (by omega)]; rfl
      simp [he, hw]
      exact ⟨n - (i + 1), by omega, i + 1, rfl, by omega, rfl, not_mem_take_succ (by omega) hno he⟩
  · simp [hlt]
    have : xs.take i = xs := List.take_of_length_le (by omega)
    rw [this] at hno
    rcases firstAt_spec t xs with ⟨h, _⟩ | ⟨_, _, h3, _⟩
    · exact h.symm
    · exact absurd (List.mem_of_getElem? h3) hno

/-- What is left, and the cells behind. -/
theorem filter_take_succ {t : Int} {xs : List Int} {i : Nat} (h : i < xs.length) : (xs.take (i + 1)).filter (fun x => !(x == t)) = (xs.take i).filter (fun x => !(x == t)) ++ (if xs[i] = t then [] else [xs[i]]) := by
  rw [List.take_succ_eq_append_getElem h, List.filter_append]
  by_cases e : xs[i] = t <;> simp [e]

theorem int_info : ∃ i, Try.prog.info? 3 = some i ∧ i.zero = some (.int .i64 0) ∧ i.size = 1 ∧ i.bytes = 8 := by
  have h : (Try.prog.info? 3).map (fun i => (i.zero, i.size, i.bytes)) = some (some (.int .i64 0), 1, 8) := by kernel_rfl
  cases hi : Try.prog.info? 3 with
  | none => rw [hi] at h; cases h
  | some i => rw [hi] at h; simp at h; exact ⟨i, rfl, h.1, h.2.1, h.2.2⟩

theorem writeN_size (cs : Array Value) : ∀ (vs : List Value) (o : Nat), (writeN cs o vs).size = cs.size := by
  intro vs
  induction vs generalizing cs with
  | nil => intro o; rfl
  | cons v vs ih => intro o; unfold writeN; rw [ih]; simp

theorem writeN_get (vs : List Value) : ∀ (cs : Array Value) (o j : Nat), o + vs.length ≤ cs.size → (writeN cs o vs)[j]? = if o ≤ j ∧ j < o + vs.length then vs[j - o]? else cs[j]? := by
  induction vs with
  | nil => intro cs o j _; simp [writeN]; omega
  | cons v vs ih =>
    intro cs o j h
    simp only [List.length_cons] at h
    unfold writeN
    rw [ih _ _ _ (by simp; omega)]
    simp only [List.length_cons]
    by_cases h1 : o + 1 ≤ j ∧ j < o + 1 + vs.length
    · rw [if_pos h1, if_pos (by omega), show j - o = (j - (o + 1)) + 1 by omega]
      simp
    · rw [if_neg h1, Array.getElem?_setIfInBounds]
      by_cases h2 : o = j
      · subst h2; rw [if_pos rfl, if_pos (by omega)]; simp
      · rw [if_neg h2, if_neg (by omega)]

theorem index_nil {w : World} (f : Value) : Calls Try.prog 148 #[.slice none 0 0, f] w fun en w' => en = .returned (.int .i64 (-1)) ∧ w' = w := by
  apply vk148
  simp only [vc148, opK_len_69]
  refine loopK1 (fun _ v w' => w' = w ∧ v = .int .i64 0) 0 ⟨rfl, rfl⟩ ?_
  rintro m v w' ⟨rfl, rfl⟩
  simp

theorem filter_self {t : Int} {xs : List Int} (h : t ∉ xs) : xs.filter (fun x => !(x == t)) = xs := by
  rw [List.filter_eq_self]
  intro x hx
  simp
  rintro rfl
  exact h hx

/-- How a round of DeleteFunc finds things: i are left of the first j. -/
def DelI (w2 : World) (g cap : Nat) (t : Int) (xs : List Int) (rest : List Value) (m : Nat) (v5 v6 : Value) (w' : World) : Prop :=
  ∃ (i j : Nat) (cs : List Value), v5 = .int .i64 i ∧ v6 = .int .i64 j ∧ i < j ∧ j ≤ xs.length ∧ m = xs.length - j ∧ w'.heap[g]? = some (.cells cs.toArray 3 (0, 0)) ∧
    Upd (fun c => c = g) w2 w' ∧ cs.length = cap ∧ cs.take i = nums ((xs.take j).filter fun x => !(x == t)) ∧ ∀ q, j ≤ q → cs[q]? = (nums xs ++ rest)[q]?

theorem delete_calls {w : World} {b : Nat} {t : Int} {Tb : TypeId} {fr : Nat × Nat} (hb : w.heap[b]? = some (.cells #[.int .i64 t] Tb fr)) {v : Value} {xs : List Int}
    (hv : w.ownsRow 0 3 1 v xs.length (nums xs)) (hne : v.ownBlock ≠ some b) :
    Calls Try.prog 136 #[v, .func (.func 127) #[] #[.pointer (some ⟨b, 0, none⟩)]] w fun en w' => ∃ v', en = .returned v' ∧
      w'.ownsRow 0 3 1 v' (xs.filter fun x => !(x == t)).length (nums (xs.filter fun x => !(x == t))) ∧ Upd (fun c => v.ownBlock = some c) w w' ∧ v'.ownBlock = v.ownBlock := by
  apply vk136
  unfold vc136
  rcases row_open hv with ⟨rfl, h0, hx⟩ | ⟨g, cap, rest, rfl, hg, hn, hm, hs, hl⟩
  · have hxs : xs = [] := List.eq_nil_of_length_eq_zero h0
    subst hxs
    refine callK_of (index_nil _) ?_
    rintro e w2 ⟨rfl, rfl⟩
    refine ⟨_, rfl, ?_⟩
    simp
    exact ⟨World.ownsRow_nil w2 0 3 1, Upd.refl _ _⟩
  have hgb : g ≠ b := fun e => hne (by rw [e]; rfl)
  have hmax : cap ≤ 9223372036854775807 := by simpa [maxLen] using hm
  simp only [Nat.mul_one] at hs
  refine callK_of (index_calls hb hg rfl (by omega)) ?_
  rintro e w2 ⟨rfl, rfl⟩
  refine ⟨_, rfl, ?_⟩
  rcases firstAt_spec t xs with ⟨h1, h2⟩ | ⟨h1, h2, h3, h4⟩
  · simp [h1]
    rw [filter_self h2]
    exact ⟨hv, Upd.refl _ _⟩
  obtain ⟨k, hk⟩ := Int.eq_ofNat_of_zero_le h1
  rw [hk] at h2 h3 h4 ⊢
  simp only [Int.toNat_natCast] at h3 h4
  have hkn : k < xs.length := by omega
  have hxk : xs[k] = t := by simpa [hkn] using h3
  have hw1 : IntKind.i64.wrap ((k : Int) + 1) = ((k + 1 : Nat) : Int) := by rw [wrap_i64 (by omega) (by omega)]; rfl
  have hk1 : ¬ ((k : Int) = -1) := by omega
  simp [hk1, hw1]
  have hb' : b < w2.heap.size := blk_lt hb
  refine loopK2 (DelI w2 g cap t xs rest) (xs.length - (k + 1))
    ⟨k, k + 1, nums xs ++ rest, rfl, rfl, by omega, by omega, rfl, hg, Upd.refl _ _, hs, ?_, fun q _ => rfl⟩ ?_
  · rw [filter_take_succ hkn, if_pos hxk, List.append_nil, filter_self h4, List.take_append_of_le_length (by simp; omega)]
    simp [nums]
  rintro m v5 v6 w' ⟨i, j, cs, rfl, rfl, hij, hjn, rfl, hg', hu, hcl, htake, hrest⟩
  by_cases hlt : j < xs.length
  · have hcj : cs.toArray[j]? = some (.int .i64 xs[j]) := by
      have := hrest j (Nat.le_refl _)
      rw [List.getElem?_append_left (by simp; omega), nums_get] at this
      simpa [hlt] using this
    have hbw : w'.heap[b]? = some (.cells #[.int .i64 t] Tb fr) := by rw [hu.old b hb' (fun e => hgb e.symm)]; exact hb
    have hwi : IntKind.i64.wrap ((i : Int) + 1) = ((i + 1 : Nat) : Int) := by rw [wrap_i64 (by omega) (by omega)]; rfl
    have hwj : IntKind.i64.wrap ((j : Int) + 1) = ((j + 1 : Nat) : Int) := by rw [wrap_i64 (by omega) (by omega)]; rfl
    have hi : i < xs.length := by omega
    simp [hlt]
    apply joinK_now
    simp [hg', hcj, opK_same]
    refine callK_of (same_calls hbw) ?_
    rintro e w3 ⟨rfl, rfl⟩
    refine ⟨_, rfl, ?_⟩
    by_cases he : xs[j] = t
    · simp [he, hwj]
      refine ⟨xs.length - (j + 1), by omega, i, j + 1, cs, rfl, rfl, by omega, by omega, rfl, hg', hu, hcl, ?_, fun q hq => hrest q (by omega)⟩
      rw [filter_take_succ hlt, if_pos he, List.append_nil]; exact htake
    · have hic : i < cs.length := by omega
      simp [he, hi, hg', hic, hwi, hwj]
      refine ⟨xs.length - (j + 1), by omega, i + 1, j + 1, cs.set i (.int .i64 xs[j]), rfl, rfl, by omega, by omega, rfl, putB_same (blk_lt hg') _, hu.putB (.inr rfl) _, by simpa using hcl, ?_, fun q hq => ?_⟩
      · rw [filter_take_succ hlt, if_neg he, nums_append, ← htake, List.take_succ_eq_append_getElem (by simpa using hic), List.take_set_of_le (Nat.le_refl i)]
        simp [nums]
      · rw [List.getElem?_set_ne (by omega)]; exact hrest q (by omega)
  · obtain ⟨inf, hi1, hi2, hi3, hi4⟩ := int_info
    have hj : j = xs.length := by omega
    have hF : (xs.take j).filter (fun x => !(x == t)) = xs.filter (fun x => !(x == t)) := by rw [hj, List.take_length]
    rw [hF] at htake
    have hFl : (xs.filter fun x => !(x == t)).length = i := by
      have := congrArg List.length htake
      simp at this
      omega
    have hci : ¬ (cap = i) := by omega
    have hz : Value.oneCell' (.int .i64 0) = true := rfl
    have hcl2 := run_clear1 (P := Try.prog) Try.underlying69 hi1 hi2 hz (g := g) (o := i) (n := xs.length - i) (cap := cap - i) (w := w') (cs := cs.toArray) hg' (by simp; omega) 0
    have hile : (i : Int) ≤ xs.length := by omega
    have hicap : (i : Int) ≤ cap := by omega
    have hpos : (0 : Int) ≤ i := by omega
    simp only [hlt, opK_int_lss, Int.ofNat_lt, decide_false, boolK_bool, Bool.false_eq_true, if_false]
    rw [opK_sl_lo_69 _ _ _ _ _ hpos hile]
    simp only [Int.toNat_natCast, hci, if_false, Nat.mul_one]
    rw [opK_of hcl2 rfl, opK_sl_hi_69 _ _ _ _ _ hpos hicap]
    simp only [Int.toNat_natCast]
    have hwn : (writeN cs.toArray i (List.replicate (xs.length - i) (.int .i64 0))).toList.take i = cs.take i := by
      apply List.ext_getElem?
      intro q
      rw [List.getElem?_take, List.getElem?_take]
      by_cases hq : q < i
      · rw [if_pos hq, if_pos hq, Array.getElem?_toList, writeN_get _ _ _ _ (by simp; omega), if_neg (by omega)]
        simp
      · rw [if_neg hq, if_neg hq]
    have hu2 : Upd (fun c => (Value.slice (some ⟨g, 0, none⟩) xs.length cap).ownBlock = some c) w2 w' := hu.mono fun c hc => by subst hc; rfl
    refine ⟨?_, hu2.putB (.inr rfl) _, rfl⟩
    subst hFl
    refine row_shut (rest := (writeN cs.toArray (xs.filter fun x => !(x == t)).length (List.replicate (xs.length - (xs.filter fun x => !(x == t)).length) (.int .i64 0))).toList.drop (xs.filter fun x => !(x == t)).length) ?_ (by omega) hm ?_ (by simp)
    · rw [← htake, ← hwn, List.take_append_drop]
      exact putB_same (blk_lt hg') _
    · rw [← htake, ← hwn, List.take_append_drop]
      simp [writeN_size, hcl]
end Go.Proofs.Ytaniphdbebdhhaa
