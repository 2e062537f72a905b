/-
  The law IpcScripts, walked: it returns true, and nothing that lay before has turned. No condition beyond what the theorem names.
-/
import Derived.Test.YtaniphdbebdhhaaIpF
namespace Go.Proofs.Ytaniphdbebdhhaa.Ipc
open Go.Vk Vk.Ipc

theorem near_no (n : Int) : nearV n 5 ≠ 777 := by
  unfold nearV
  by_cases h : n.tmod 31 = 30
  · rw [if_pos h]
    intro e
    subst e
    revert h
    decide
  · rw [if_neg h]
    have h7 : IntKind.i64.wrap ((5 : Int) + 2) = 7 := by decide
    rw [h7]
    have hp : -7 < pickV n 7 ∧ pickV n 7 < 7 := by
      unfold pickV
      generalize (if n < 0 then IntKind.i64.wrap (-(IntKind.i64.wrap (n + 1))) else n) = q
      exact ⟨Int.lt_tmod_of_pos q (show (0 : Int) < 7 by omega), Int.tmod_lt_of_pos q (show (0 : Int) < 7 by omega)⟩
    rw [wrap_i64 (by omega) (by omega)]
    omega

theorem b59 (ty : TypeId) (w : World) (K : Value → World → Prop) : opK Try.prog (.build 59 #[]) ty w K = K (.agg #[nilS, nilS]) w := opK_of (by kernel_rfl) rfl

theorem b50two (k a : Int) (ty : TypeId) (w : World) (K : Value → World → Prop) :
    opK Try.prog (.build 50 #[(0, .const (.int .i64 k)), (1, .const (.int .i64 a))]) ty w K = K (.agg #[.int .i64 k, .int .i64 a, .int .i64 0, .int .i64 0, .int .i64 0, .string ⟨#[]⟩]) w := opK_of (by kernel_rfl) rfl

def PB.nil : PB := ⟨fun _ => none, fun _ => none⟩
def zB : PB := ((PB.nil.opn 1 true).2.ring bor32 1 6).2
theorem bor06 : bor32 0 6 = 6 := by decide
theorem z_word : zB.wordOf 1 = (6, 0) := by
  simp [zB, PB.nil, PB.opn, PB.ring, PB.wordOf, bor06]

/-- How things stand after j steps. -/
def St (w0 : World) (x y B xz : Nat) (j : Nat) (w : World) : Prop :=
  ∃ G S R k oz, BB G w x y B S R k ∧ Sim S R ∧ R.P.length ≤ j ∧ R.W.length ≤ j ∧ k ≤ 2 * j ∧ Upd (fun _ => False) w0 w ∧ (∀ b, G b → w0.heap.size ≤ b) ∧
    BusIn oz w xz zB ∧ (∀ b, oz b ≠ none → w0.heap.size ≤ b ∧ ¬ G b) ∧ ∀ p ∈ R.P, p.num ≠ 777

/-- One step by the law's 'passes'. -/
theorem St.step {w0 w : World} {x y B xz j : Nat} (h : St w0 x y B xz j w) (hj : j ≤ 300000) {cs : Array Value} {kd a b c d : Int}
    (c0 : cs[0]? = some (.int .i64 kd)) (c1 : cs[1]? = some (.int .i64 a)) (c2 : cs[2]? = some (.int .i64 b)) (c3 : cs[3]? = some (.int .i64 c)) (c4 : cs[4]? = some (.int .i64 d)) :
    Calls Try.prog 21 #[.pointer (some ⟨x, 0, none⟩), .pointer (some ⟨y, 0, none⟩), .pointer (some ⟨B, 0, none⟩), .agg cs] w fun en w' => en = .returned (.bool true) ∧ St w0 x y B xz (j + 1) w' := by
  obtain ⟨G, S, R, k, oz, hB, hsim, h1, h2, h3, hu, hG, hz, hzG, hno⟩ := h
  refine (passes_calls hB hsim (by omega) (by omega) (by omega) c0 c1 c2 c3 c4).mono ?_
  rintro en w' ⟨he, G', S', R', k', hB', hsim', hp, hw, hk', hst, hkeep⟩
  refine ⟨he, G', S', R', k', oz, hB', hsim', by omega, by omega, by omega, hu.trans hst.2 fun b hb hg => by have := hG b hg; omega, fun b hb => ?_, hz.frame (fun b hb => hst.2.old b (hz.lt hb) (hzG b hb).2) hst.2.size, fun b hb => ⟨(hzG b hb).1, fun hg => ?_⟩, fun p hp' => ?_⟩
  · rcases hst.1 b hb with h | h
    · exact hG b h
    · exact Nat.le_trans hu.size h
  · rcases hst.1 b hg with h | h
    · exact (hzG b hb).2 h
    · have := hz.lt hb; omega
  · rcases hkeep p hp' with ⟨q, hq, e⟩ | ⟨n, e⟩
    · rw [← e]; exact hno q hq
    · rw [e]; exact near_no n

set_option maxRecDepth 100000 in
set_option maxHeartbeats 2000000 in
theorem ipcScripts_calls {w : World} {v : Value} {os : List OpV} (hv : RowAt w 6 v os.length (os.flatMap opCells)) (hbig : os.length ≤ 9000000000000000000) :
    Calls Try.prog 5 #[v] w fun en w' => en = .returned (.bool true) ∧ Upd (fun _ => False) w w' := by
  apply vk5
  unfold vc5
  refine callK_of (New18 w) ?_
  rintro r w1 ⟨x, own, rfl, hx, hxo, hu1⟩
  refine ⟨_, rfl, ?_⟩
  rw [b59, opK_box]
  obtain ⟨w2, hw2, hu2, hy2, hs2⟩ := one w1 (.cells (Value.agg #[nilS, nilS]).cells 59)
  rw [hw2]
  refine callK_of (New18 w2) ?_
  rintro r w3 ⟨xz, oz, rfl, hz, hzo, hu3⟩
  refine ⟨_, rfl, ?_⟩
  simp
  obtain ⟨mz1, mz2, lz1, cz1, lz2, cz2, pbz, lvz, hzat⟩ := hz
  refine callK_of (Open_calls hzat 1 true) ?_
  rintro r w4 ⟨rfl, oz4, hz4, hzo4, hzu4⟩
  refine ⟨_, rfl, ?_⟩
  obtain ⟨mz1, mz2, lz1, cz1, lz2, cz2, pbz, lvz, hzat⟩ := hz4
  refine callK_of (Ring_calls hzat 1 6) ?_
  rintro r w5 ⟨rfl, oz5, hz5, hzo5, hzu5⟩
  refine ⟨_, rfl, ?_⟩
  rw [bld47]
  obtain ⟨w6, hw6, hu6, hb6, hs6⟩ := one w5 (.cells (Value.agg #[nilS, nilS, nilS, nilS, nilS, nilS]).cells 47)
  rw [hw6]
  have hs1 := hu1.size
  have hs3 := hu3.size
  have hs4 := hzu4.size
  have hs5 := hzu5.size
  have hz5own : ∀ b, oz5 b ≠ none → w2.heap.size ≤ b := fun b hb => by
    rcases hzo5 b hb with h | h
    · rcases hzo4 b h with h2 | h2
      · exact hzo b h2
      · omega
    · omega
  have hz4own : ∀ b, oz4 b ≠ none → w2.heap.size ≤ b := fun b hb => by
    rcases hzo4 b hb with h2 | h2
    · exact hzo b h2
    · omega
  have hu26 : Upd (fun _ => False) w2 w6 := ((hu3.trans hzu4 fun b hb h => by have := hzo b h; omega).trans hzu5 fun b hb h => by have := hz4own b h; omega).trans hu6 fun _ _ f => f
  have hu16 : Upd (fun _ => False) w w6 := (hu1.trans hu2 fun _ _ f => f).trans hu26 fun _ _ f => f
  have hx6 : BusIn own w6 x PB.nil := (hx.frame (fun b hb => (hu2.old b (hx.lt hb) fun f => f)) hu2.size).frame (fun b hb => hu26.old b (by have := hx.lt hb; omega) fun f => f) hu26.size
  have hy6 := (hu26.old w1.heap.size (by omega) fun f => f).trans hy2
  have hdoc : DocIn (fun b => if b = w1.heap.size then some .head else none) w6 w1.heap.size ⟨[], []⟩ :=
    ⟨nilS, nilS, hy6, World.ownsRow_nil _ _ _ _, World.ownsRow_nil _ _ _ _, by simp, fun b hb => by simp [Value.ownBlock] at hb, fun b hb => by simp [Value.ownBlock] at hb, fun b hb => by
      by_cases e : b = w1.heap.size
      · subst e; exact blk_lt hy6
      · simp [e] at hb⟩
  have hbk : BooksAt (fun b => b = w5.heap.size) w6 w5.heap.size nilS nilS nilS nilS nilS nilS [] :=
    ⟨hb6, World.ownsRow_nil _ 0 69 1, fun k v h => (by simp at h), by simp, rfl, fun b hb => (by simp [Value.ownBlock] at hb), fun v hv => (by cases hv), fun b hb => (by subst hb; omega)⟩
  have hst : St w x w1.heap.size w5.heap.size xz 0 w6 := by
    refine ⟨fun b => own b ≠ none ∨ (if b = w1.heap.size then some DTag.head else none) ≠ none ∨ b = w5.heap.size, PB.nil, ⟨[], []⟩, 0, oz5,
      ⟨own, _, fun b => b = w5.heap.size, nilS, [], hx6, hdoc, hbk, rfl, fun g hg => ⟨?_, fun e => ?_⟩, fun g hg e => ?_, fun b => Iff.rfl⟩, Sim.start, by simp, by simp, by simp, hu16, fun g hg => ?_, hz5.frame (fun g hg => (hu6.old g (hz5.lt hg) fun f => f)) hu6.size, fun g hg => ⟨?_, ?_⟩, by simp⟩
    · have := hx.lt hg
      rw [if_neg (by omega)]
    · have := hx.lt hg; omega
    · by_cases e2 : g = w1.heap.size
      · omega
      · simp [e2] at hg
    · rcases hg with h | h | h
      · have := hxo g h; omega
      · by_cases e2 : g = w1.heap.size
        · omega
        · simp [e2] at h
      · omega
    · have := hz5own g hg; omega
    · have h5 := hz5own g hg
      have h6 := hz5.lt hg
      rintro (h | h | h)
      · have := hx.lt h; omega
      · by_cases e2 : g = w1.heap.size
        · omega
        · simp [e2] at h
      · omega
  have hnl : ∀ n : Nat, IntKind.i64.wrap ((n : Int) + 1) = ((n + 1 : Nat) : Int) ∨ ¬ n < 9000000000000000001 := fun n => by
    rcases Nat.lt_or_ge n 9000000000000000001 with h | h
    · left; rw [wrap_i64 (by omega) (by omega)]; rfl
    · right; omega
  obtain ⟨a2, cp2, hvs2⟩ := hv.slice
  refine loopK1 (fun m v' wi => ∃ j : Nat, j ≤ os.length ∧ j ≤ 262144 ∧ v' = .int .i64 j ∧ m = os.length - j ∧ St w x w1.heap.size w5.heap.size xz j wi) os.length ⟨0, by omega, by omega, rfl, by omega, hst⟩ ?_
  rintro m v' wi ⟨j, hj, hj2, rfl, rfl, hS⟩
  by_cases hlt : j < os.length ∧ j < 262144
  · obtain ⟨h1, h2⟩ := hlt
    have h1' : (j : Int) < os.length := by omega
    have h2' : (j : Int) < 262144 := by omega
    have hw := (hnl j).resolve_right (by omega)
    rcases hv with ⟨_, h0, _⟩ | ⟨g, o, cap, cs, T, fr, rfl, hg, hl, hcs⟩
    · omega
    have hgi : wi.heap[g]? = some (.cells cs T fr) := by
      obtain ⟨_, _, _, _, _, _, _, _, _, _, hu, _⟩ := hS
      exact (hu.old g (blk_lt hg) (fun f => f)).trans hg
    have hrd := op_readA hcs h1
    simp [h1', h2', hgi, hrd, -Int.natCast_add]
    refine callK_of (hS.step (by omega) (kd := os[j].kd) (a := os[j].a) (b := os[j].b) (c := os[j].c) (d := os[j].d) rfl rfl rfl rfl rfl) ?_
    rintro r w9 ⟨rfl, hS9⟩
    refine ⟨_, rfl, ?_⟩
    simp [hw, -Int.natCast_add]
    exact ⟨os.length - (j + 1), by omega, j + 1, by omega, by omega, rfl, rfl, hS9⟩
  · have hc : ¬ (j : Int) < os.length ∨ ((j : Int) < os.length ∧ ¬ (j : Int) < 262144) := by
      by_cases h1 : j < os.length
      · exact .inr ⟨by omega, fun h2 => hlt ⟨h1, by omega⟩⟩
      · exact .inl (by omega)
    subst hvs2
    rcases hc with h1 | ⟨h1, h2⟩
    all_goals
      first
        | simp [h1, h2, -Int.natCast_add]
        | simp [h1, -Int.natCast_add]
      refine loopK1 (fun m v' wi => ∃ d : Nat, d ≤ 6 ∧ v' = .int .i64 d ∧ m = 6 - d ∧ ∃ j : Nat, j ≤ 262144 + 2 * d ∧ St w x w1.heap.size w5.heap.size xz j wi) 6 ⟨0, by omega, rfl, by omega, j, by omega, hS⟩ ?_
      rintro m v' wi2 ⟨d, hd, rfl, rfl, j2, hj2b, hS2⟩
      by_cases hd8 : d < 6
      · have hd8' : (d : Int) < 6 := by omega
        have hwd := (hnl d).resolve_right (by omega)
        simp [hd8', hwd, b50two, -Int.natCast_add]
        refine callK_of (hS2.step (by omega) rfl rfl rfl rfl rfl) ?_
        rintro r w9 ⟨rfl, hS9⟩
        refine ⟨_, rfl, ?_⟩
        simp [-Int.natCast_add]
        refine callK_of (hS9.step (by omega) rfl rfl rfl rfl rfl) ?_
        rintro r w10 ⟨rfl, hS10⟩
        refine ⟨_, rfl, ?_⟩
        simp [-Int.natCast_add]
        exact ⟨6 - (d + 1), by omega, d + 1, by omega, rfl, rfl, j2 + 1 + 1, by omega, hS10⟩
      · have hd8' : ¬ (d : Int) < 6 := by omega
        simp [hd8', -Int.natCast_add]
        obtain ⟨G, S, R, k, oz9, hB, hsim2, hl1, hl2, hl3, hu9, hG, hz9, hzG, hno⟩ := hS2
        have hnone : S.places 777 = none := by
          rw [hsim2.pl]
          cases hf : R.P.find? fun p => p.num == 777 with
          | none => rfl
          | some q => exact absurd (by simpa using List.find?_some hf) (hno q (List.mem_of_find?_eq_some hf))
        have hopn : S.opn 777 false = (0, { S with places := up S.places 777 (some ⟨false, [], 0⟩) }) := by unfold PB.opn; simp [hnone]
        refine callK_of (hB.useS1 (Pe := fun en => en = .returned (.int .i64 (S.opn 777 false).1)) (S' := (S.opn 777 false).2) fun own m1 m2 l1 c1 l2 c2 pb lv hs => Open_calls hs _ _) ?_
        rintro r w9 ⟨rfl, G9, hB9, st9⟩
        refine ⟨_, rfl, ?_⟩
        have hq9 : ∀ i p, (S.opn 777 false).2.places i = some p → p.line.length < 1000000000 := fun i p hp => by
          rw [hopn] at hp
          by_cases e : i = 777
          · subst e
            have : p = ⟨false, [], 0⟩ := by simpa [up] using hp.symm
            subst this; simp
          · have hp' : S.places i = some p := by simpa [up, e] using hp
            exact sim_hq hsim2 (by omega) i p hp'
        have hline : (S.opn 777 false).2.line 777 = ([], 0) := by rw [hopn]; simp [PB.line]
        have hz10 := hz9.frame (w' := w9) (fun b hb => st9.2.old b (hz9.lt hb) (hzG b hb).2) st9.2.size
        refine callK_of (hB9.onS fun own m1 m2 l1 c1 l2 c2 pb lv hs => Line_calls hs hq9 777) ?_
        rintro r w10 ⟨lv10, rfl, hu10, hrow10, _⟩
        refine ⟨_, rfl, ?_⟩
        rw [hline] at hrow10 ⊢
        obtain ⟨a10, c10, hlv10⟩ := row_slice hrow10
        subst hlv10
        simp
        have hB10 := hB9.same hu10
        obtain ⟨_, _, ob, bv, es, _, _, hbk2, hes, _⟩ := hB10
        refine callK_of (reads_calls hbk2 (by omega)) ?_
        rintro r w11 ⟨rfl, rfl⟩
        refine ⟨_, rfl, ?_⟩
        have hz11 := hz10.frame (w' := w11) (fun b hb => hu10.old b (hz10.lt hb) fun f => f) hu10.size
        obtain ⟨mz1, mz2, lz1, cz1, lz2, cz2, pbz, lvz, hzat9⟩ := hz11
        refine callK_of (Word_calls hzat9 1) ?_
        rintro r w12 ⟨rfl, rfl⟩
        refine ⟨_, rfl, ?_⟩
        rw [z_word]
        simp [hopn]
        exact (hu9.trans st9.2 fun g hg hh => by have := hG g hh; omega).trans hu10 fun _ _ f => f
end Go.Proofs.Ytaniphdbebdhhaa.Ipc
