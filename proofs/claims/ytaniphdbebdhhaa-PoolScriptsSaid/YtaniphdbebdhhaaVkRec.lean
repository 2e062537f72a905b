/-
  Rows of records: cells of a record, a record changed. No condition.
-/
import Derived.Test.YtaniphdbebdhhaaVkRow
namespace Go.Vk

section
variable {α : Type} {f : α → List Value} {z : Nat}

theorem flat_len (hz : ∀ e, (f e).length = z) (L : List α) : (L.flatMap f).length = L.length * z := by
  induction L with
  | nil => simp
  | cons a L ih => simp [List.flatMap_cons, ih, hz, Nat.add_mul]; omega

theorem flat_get (hz : ∀ e, (f e).length = z) : ∀ (L : List α) (rest : List Value) (i j : Nat) (hi : i < L.length), j < z → (L.flatMap f ++ rest)[i * z + j]? = (f L[i])[j]?
  | [], _, i, _, hi, _ => absurd hi (by simp)
  | a :: L, rest, 0, j, _, hj => by
    rw [List.flatMap_cons, List.append_assoc, Nat.zero_mul, Nat.zero_add, List.getElem?_append_left (by rw [hz]; exact hj)]
    rfl
  | a :: L, rest, i + 1, j, hi, hj => by
    rw [List.flatMap_cons, List.append_assoc, List.getElem?_append_right (by rw [hz, Nat.add_mul]; omega), hz]
    have e : (i + 1) * z + j - z = i * z + j := by rw [Nat.add_mul]; omega
    rw [e]
    exact flat_get hz L rest i j (by simpa using hi) hj

theorem flat_set (hz : ∀ e, (f e).length = z) (g : α → α) (v : Value) : ∀ (L : List α) (rest : List Value) (i j : Nat) (hi : i < L.length), j < z → f (g L[i]) = (f L[i]).set j v →
    (L.flatMap f ++ rest).set (i * z + j) v = (L.modify i g).flatMap f ++ rest
  | [], _, i, _, hi, _, _ => absurd hi (by simp)
  | a :: L, rest, 0, j, _, hj, h => by
    rw [List.flatMap_cons, List.append_assoc, Nat.zero_mul, Nat.zero_add, List.set_append_left _ _ (by rw [hz]; exact hj)]
    have h' : f (g a) = (f a).set j v := h
    simp [List.flatMap_cons, h']
  | a :: L, rest, i + 1, j, hi, hj, h => by
    rw [List.flatMap_cons, List.append_assoc, List.set_append_right _ _ (by rw [hz, Nat.add_mul]; omega), hz]
    have e : (i + 1) * z + j - z = i * z + j := by rw [Nat.add_mul]; omega
    rw [e, flat_set hz g v L rest i j (by simpa using hi) hj h]
    simp [List.flatMap_cons]

theorem flat_geta (hz : ∀ e, (f e).length = z) (L : List α) (rest : List Value) (i j : Nat) (hi : i < L.length) (hj : j < z) : (L.flatMap f ++ rest).toArray[i * z + j]? = (f L[i])[j]? := by
  rw [List.getElem?_toArray]; exact flat_get hz L rest i j hi hj

theorem flat_seta (hz : ∀ e, (f e).length = z) (g : α → α) (v : Value) (L : List α) (rest : List Value) (i j : Nat) (hi : i < L.length) (hj : j < z) (h : f (g L[i]) = (f L[i]).set j v) :
    (L.flatMap f ++ rest).toArray.setIfInBounds (i * z + j) v = ((L.modify i g).flatMap f ++ rest).toArray := by
  rw [List.setIfInBounds_toArray, flat_set hz g v L rest i j hi hj h]

theorem readN_of : ∀ (vs : List Value) (cs : Array Value) (o n : Nat), vs.length = n → (∀ j, j < n → cs[o + j]? = vs[j]?) → readN cs o n = some vs
  | [], _, _, n, hl, _ => by
    have : n = 0 := by simpa using hl.symm
    subst this; rfl
  | v :: vs, cs, o, n, hl, h => by
    obtain ⟨k, rfl⟩ : ∃ k, n = k + 1 := ⟨vs.length, by simpa using hl.symm⟩
    have h0 : cs[o]? = some v := by simpa using h 0 (by omega)
    have h1 := readN_of vs cs (o + 1) k (by simpa using hl) fun j hj => by
      have := h (j + 1) (by omega)
      rw [show o + 1 + j = o + (j + 1) by omega]
      simpa using this
    simp [readN, h0, h1]

theorem flat_read (hz : ∀ e, (f e).length = z) (L : List α) (rest : List Value) (i : Nat) (hi : i < L.length) : readN (L.flatMap f ++ rest).toArray (i * z) z = some (f L[i]) :=
  readN_of _ _ _ _ (hz _) fun j hj => flat_geta hz L rest i j hi hj
theorem writeN_list : ∀ (vs l : List Value) (o : Nat), o + vs.length ≤ l.length → writeN l.toArray o vs = (l.take o ++ vs ++ l.drop (o + vs.length)).toArray
  | [], l, o, _ => by simp [writeN]
  | v :: vs, l, o, h => by
    simp only [List.length_cons] at h
    unfold writeN
    rw [List.setIfInBounds_toArray, writeN_list vs (l.set o v) (o + 1) (by simp; omega)]
    congr 1
    rw [List.take_succ_eq_append_getElem (by simp; omega), List.take_set_of_le (Nat.le_refl o), List.drop_set_of_lt (by omega)]
    simp
    congr 1
    omega

theorem flat_write {α : Type} {f : α → List Value} {z : Nat} (hz : ∀ e, (f e).length = z) (L : List α) (rest : List Value) (i : Nat) (hi : i < L.length) (e : α) :
    writeN (L.flatMap f ++ rest).toArray (i * z) (f e) = ((L.set i e).flatMap f ++ rest).toArray := by
  have hl := flat_len hz L
  have hle : i * z + z ≤ L.length * z := by rw [← Nat.succ_mul]; exact Nat.mul_le_mul_right _ hi
  rw [writeN_list _ _ _ (by rw [hz, List.length_append, hl]; omega)]
  congr 1
  have h1 : L.flatMap f = (L.take i).flatMap f ++ (L.drop i).flatMap f := by rw [← List.flatMap_append, List.take_append_drop]
  have h2 : L.flatMap f = (L.take (i + 1)).flatMap f ++ (L.drop (i + 1)).flatMap f := by rw [← List.flatMap_append, List.take_append_drop]
  have l1 : ((L.take i).flatMap f).length = i * z := by rw [flat_len hz]; simp [Nat.min_eq_left (Nat.le_of_lt hi)]
  have l2 : ((L.take (i + 1)).flatMap f).length = i * z + z := by rw [flat_len hz]; simp [Nat.min_eq_left hi, Nat.add_mul]
  have t1 : (L.flatMap f ++ rest).take (i * z) = (L.take i).flatMap f := by rw [h1, List.append_assoc, List.take_left' l1]
  have t2 : (L.flatMap f ++ rest).drop (i * z + (f e).length) = (L.drop (i + 1)).flatMap f ++ rest := by rw [hz, h2, List.append_assoc, List.drop_left' l2]
  rw [t1, t2, List.set_eq_take_append_cons_drop, if_pos hi]
  simp

end
section
variable {P : Program} {T e z bytes : Nat} {i : TypeInfo} {zv : Value}

/-- append(s, t...): what lies behind an address. -/
theorem run_appendN (hT : P.underlying T = some (.slice e)) (hi : P.info? e = some i) (hz : i.zero = some zv) (hsz : i.size = z) (hby : i.bytes = bytes) (hzs : zv.cells.size = z) (hpos : 0 < z)
    {w : World} {v : Value} {n : Nat} {xs : List Value} (hown : w.ownsRow 0 e z v n xs) {a : Addr} {c m : Nat} {news : List Value} (hnews : ∀ j u, news[j]? = some u → w.cell? (a.add j) = some u) (hl : news.length = m * z) (hone : ∀ u ∈ news, u.oneCell' = true)
    (hlen : n + m ≤ maxLen) (hbytes : (n + m) * bytes ≤ 140737488355328) (ty : TypeId) :
    ∃ v' w', (Builtin.append_ #[T, T] ty #[v, .slice (some a) m c]).run P w = .ok v' w' ∧ w'.ownsRow 0 e z v' (n + m) (xs ++ news) ∧ w.grownBy w' v.ownBlock ∧ (∀ b, v'.ownBlock = some b → v.ownBlock = some b ∨ w.heap.size ≤ b) := by
  subst hsz
  subst hby
  have hsmall : n + m ≤ 9223372036854775807 := by simp only [maxLen] at hlen; omega
  have hxl : (xs ++ news).length = (n + m) * i.size := by rw [List.length_append, hown.1, hl, Nat.add_mul]
  have grown : ∀ (old : Nat), old < n + m → ∀ (row : Option Nat),
      (w.drew.alloc (.cells (xs.toArray ++ news.toArray ++ Builtin.zeroCells zv.cells (grownCap w (n + m) old e - (n + m))) e)).ownsRow 0 e i.size
        (.slice (some ⟨w.heap.size, 0, none⟩) (n + m) (grownCap w (n + m) old e)) (n + m) (xs ++ news) ∧
      w.grownBy (w.drew.alloc (.cells (xs.toArray ++ news.toArray ++ Builtin.zeroCells zv.cells (grownCap w (n + m) old e - (n + m))) e)) row := by
    intro old ho row
    have hge := grownCap_ge w (n + m) old e
    have hcm : grownCap w (n + m) old e ≤ maxLen := grownCap_le_maxLen w (n + m) old e hlen
    refine ⟨⟨hxl, .inr ⟨w.heap.size, _, _, rfl, Nat.zero_le _, heap_alloc_new w.drew _, hge, hcm, ?_, ?_⟩⟩, ⟨rfl, rfl, rfl, by simp, fun k hk _ => alloc_old (w := w.drew) hk _⟩⟩
    · simp only [Array.size_append, List.size_toArray, size_zeroCells, hzs, hown.1, hl, ← Nat.add_mul]
      congr 1
      omega
    · simp only [Array.toList_append, List.append_assoc]
      rw [← List.append_assoc, ← hxl]
      exact List.take_left
  rcases hown.2 with ⟨rfl, rfl⟩ | ⟨g0, cap, cur, rfl, hbg, hg0, hnc, hcm, hcs0, htake⟩
  · have hx : xs = [] := List.eq_nil_of_length_eq_zero (by simpa using hown.1)
    subst hx
    by_cases hm : m = 0
    · subst hm
      have hn : news = [] := List.eq_nil_of_length_eq_zero (by simpa using hl)
      refine ⟨.slice none 0 0, w, ?_, by rw [hn]; exact World.ownsRow_nil w 0 e i.size, ⟨rfl, rfl, rfl, Nat.le_refl _, fun _ _ _ => rfl⟩, fun b hb => by simp [Value.ownBlock] at hb⟩
      simp [Builtin.append_, run_underlying hT, sizeOf, typeInfo, hi, Builtin.lenOf, Builtin.firstCells, loadCells, loadCellsFrom]
    · have hr := run_append_nil (P := P) w T ty e i zv hT hi hz a m c news hl hnews (by omega) (by omega) (by have hb := hbytes; simp only [Nat.zero_add] at hb; omega)
      have hgr := grown 0 (by omega) (Value.ownBlock (.slice none 0 0))
      simp only [Nat.zero_add, List.nil_append, Array.empty_append] at hgr ⊢
      exact ⟨_, _, hr, hgr.1, hgr.2, fun b hb => by simp [Value.ownBlock] at hb; omega⟩
  · by_cases hroom : n + m ≤ cap
    · have hfit : n * i.size + news.length ≤ cur.size := by rw [hl, hcs0, ← Nat.add_mul]; exact Nat.mul_le_mul_right _ hroom
      have hr := run_append_room (P := P) w T ty e i hT hi g0 n cap cur hg0 a m c news hl hnews hone hroom hfit
      refine ⟨_, _, hr, ⟨hxl, .inr ⟨g0, cap, _, rfl, hbg, setRow_heap w g0 cur _ e _ hg0, hroom, hcm, ?_, ?_⟩⟩, ⟨rfl, rfl, rfl, by simp, fun k _ hk => setRow_other w g0 k _ (fun e => hk (by simp [Value.ownBlock, e]))⟩, fun b hb => .inl hb⟩
      · simp only [List.size_toArray, List.length_append, List.length_take, List.length_drop, Array.length_toList]
        omega
      · rw [htake, ← hxl]
        exact List.take_left
    · have holds : ∀ j u, xs[j]? = some u → w.cell? ((⟨g0, 0, none⟩ : Addr).add j) = some u := hown.cells (g := g0) rfl
      have hr := run_append_grow (P := P) w T ty e i zv hT hi hz ⟨g0, 0, none⟩ n cap xs hown.1 holds a m c news hl hnews (by omega) (by omega) (growslice_fits (by omega) hbytes)
      have hgr := grown cap (by omega) (Value.ownBlock (.slice (some ⟨g0, 0, none⟩) n cap))
      exact ⟨_, _, hr, hgr.1, hgr.2, fun b hb => by simp [Value.ownBlock] at hb; omega⟩

theorem opK_appendN (hT : P.underlying T = some (.slice e)) (hi : P.info? e = some i) (hz : i.zero = some zv) (hsz : i.size = z) (hby : i.bytes = bytes) (hzs : zv.cells.size = z) (hpos : 0 < z)
    {w : World} {v : Value} {n : Nat} {xs : List Value} (hown : w.ownsRow 0 e z v n xs) {a : Addr} {c m : Nat} {news : List Value} (hnews : ∀ j u, news[j]? = some u → w.cell? (a.add j) = some u) (hl : news.length = m * z) (hone : ∀ u ∈ news, u.oneCell' = true)
    (hlen : n + m ≤ maxLen) (hbytes : (n + m) * bytes ≤ 140737488355328) {ty : TypeId} {K : Value → World → Prop}
    (h : ∀ v' w', w'.ownsRow 0 e z v' (n + m) (xs ++ news) → w.grownBy w' v.ownBlock → (∀ b, v'.ownBlock = some b → v.ownBlock = some b ∨ w.heap.size ≤ b) → K v' w') :
    opK P (.call ⟨.builtin .append, #[.const v, .const (.slice (some a) m c)], #[T, T]⟩) ty w K := by
  obtain ⟨v', w', hr, h2, h3, h4⟩ := run_appendN hT hi hz hsz hby hzs hpos hown hnews hl hone hlen hbytes ty (c := c)
  show runK P K _
  have : (execOp bare { dst := none, op := .call ⟨.builtin .append, #[.const v, .const (.slice (some a) m c)], #[T, T]⟩, type := ty, pos := "", after := #[], guard := none }).run P w = .ok (.value v') w' := by
    simp only [execOp, resolve, invoke, builtin, Sem.run_bind, Sem.run_pure, Result.andThen_ok, List.map_toArray, List.map_cons, List.map_nil, bare, Act.eval, hr]
  rw [this]
  exact h v' w' h2 h3 h4

end
end Go.Vk
