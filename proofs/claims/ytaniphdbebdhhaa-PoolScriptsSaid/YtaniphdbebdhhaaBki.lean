/-
  The law's books of ints: a list is written down. No condition beyond what the theorem names.
-/
import Derived.Test.YtaniphdbebdhhaaBks
namespace Go.Proofs.Ytaniphdbebdhhaa.Pool
open Go.Vk Vk.Pool

set_option maxHeartbeats 1000000 in
set_option maxRecDepth 100000 in
theorem ownInts_calls {w : World} {B : Nat} {cs : Array Value} {v : Value} {es : List Value} (hhead : w.heap[B]? = some (.cells cs 47 (0, 0))) (hcs : cs[0]? = some v) (h : BRow 69 3 1 intCells (fun m => m) w v es) (hbig : es.length < 1000000000)
    {l : Value} {L : List Int} (hl : w.ownsRow 0 3 1 l L.length (L.flatMap intCells)) (hn : L.length < 1000000000) (hlo : ∀ u ∈ es, ∀ b, l.ownBlock = some b → u.ownBlock ≠ some b) :
    Calls Try.prog 51 #[.pointer (some ⟨B, 0, none⟩), l] w fun en w' => en = .returned (.tuple #[]) ∧ Owned 69 3 1 intCells (fun m => m) 0 w B cs v es l w' := by
  apply vk51
  unfold vc51
  obtain ⟨ab, cb, hbv⟩ := row_slice h.row
  obtain ⟨al, cl, hlv⟩ := row_slice hl
  have hm := mark_val hbig
  obtain ⟨mk, hmk⟩ : ∃ mk, mark es.length = mk := ⟨_, rfl⟩
  rw [hmk] at hm
  have hlenl : ∀ {ty : TypeId} {w : World} {K : Value → World → Prop}, opK Try.prog (.call ⟨.builtin .len, #[.const l], #[69]⟩) ty w K = K (.int .i64 L.length) w := by
    intro ty w K; rw [hlv]; exact opK_len_69 _ _ _ _ _ _
  have hc3 : 0 < cs.size := (Array.getElem?_eq_some_iff.1 hcs).1
  simp [hhead, hcs]
  rw [show opK Try.prog (.call ⟨.builtin .len, #[.const v], #[40]⟩) 3 w = fun K => K (.int .i64 es.length) w by funext K; rw [hbv]; exact opK_len_40 _ _ _ _ _ _]
  simp [hm]
  have hone : ∀ (o : Int), ∀ u ∈ intCells o, u.oneCell' = true := fun o u hu => List.all_eq_true.1 (int_one o) u hu
  refine loopK1 (OwnI 3 1 intCells w l L mk) L.length ⟨0, by omega, rfl, rfl, by simpa using hl, Upd.refl _ _⟩ ?_
  rintro m u w1 ⟨k, hk, rfl, rfl, hrow, hu⟩
  have hll := rep_len mk L hk
  rw [hlenl]
  by_cases hlt : k < L.length
  · have hw : IntKind.i64.wrap ((k : Int) + 1) = ((k + 1 : Nat) : Int) := by rw [wr (by omega) (by omega)]; rfl
    obtain ⟨g, cap, cs1, hv2, hg, hsz, hr2⟩ := row_write' int_len hrow hll hlt mk
    rw [rep_set _ _ hlt] at hr2
    have hu2 : Upd (fun b => l.ownBlock = some b) w (putB w1 g (.cells (writeN cs1 (k * 1) (intCells mk)) 3 (0, 0))) := hu.putB (.inr (by rw [hv2]; rfl)) _
    rw [Nat.mul_one] at hsz hr2 hu2
    have hsz' : k < cs1.size := by omega
    simp only [opK_int_lss, Int.ofNat_lt, hlt, decide_true, boolK_bool, if_true]
    rw [show opK Try.prog (.indexAddr 69 (.const l) (.const (.int .i64 (k : Int)))) 0 w1 = fun K => K (.pointer (some ⟨g, k, none⟩)) w1 by
      funext K
      rw [hv2, opK_ix_69 _ _ _ _ _ _ (by omega) (by omega)]
      simp]
    simp [hg, hsz', hw, -Int.natCast_add]
    exact ⟨L.length - (k + 1), by omega, k + 1, by omega, rfl, rfl, hr2, hu2⟩
  · have hkn : k = L.length := by omega
    have hrow' : w1.ownsRow 0 3 1 l L.length ((List.replicate L.length mk).flatMap intCells) := by
      rw [hkn, List.drop_eq_nil_of_le (Nat.le_refl _), List.append_nil] at hrow
      exact hrow
    have hlt' : ¬ (k : Int) < (L.length : Int) := by omega
    simp only [opK_int_lss, hlt', decide_false, boolK_bool, Bool.false_eq_true, if_false]
    refine loopK2 (OwnJ 3 1 intCells w l L.length mk) 33 ⟨0, by omega, rfl, rfl, hrow', hrow', hu, fun b hb => .inl hb⟩ ?_
    rintro m v6 v7 w2 ⟨i, hi, rfl, rfl, hr6, hrl, hu2, ho6⟩
    by_cases hi33 : i < 33
    · have hw : IntKind.i64.wrap ((i : Int) + 1) = ((i + 1 : Nat) : Int) := by rw [wr (by omega) (by omega)]; rfl
      have hi33' : (i : Int) < 33 := by omega
      simp [hi33']
      rw [bs69']
      have hr6' : (w2.alloc (.cells #[.int .i64 mk] 3)).ownsRow 0 3 1 v6 (L.length + i) ((List.replicate (L.length + i) mk).flatMap intCells) := row_keep hr6 fun g hg => alloc_old (row_lt hr6 hg) _
      have hrl' : (w2.alloc (.cells #[.int .i64 mk] 3)).ownsRow 0 3 1 l L.length ((List.replicate L.length mk).flatMap intCells) := row_keep hrl fun g hg => alloc_old (row_lt hrl hg) _
      obtain ⟨inf, hi1, hi2, hi3, hi4⟩ := int_info
      refine opK_append1s Try.underlying69 hi1 hi2 hi3 hi4 rfl (by omega) hr6' (alloc_new _ _) (m := 1) rfl (fun u hu => hone mk u (by simpa [intCells] using hu)) (by simp [maxLen]; omega) (by omega) ?_
      intro v' w3 h1 h2 h3 h4
      have hsz := hu2.size
      simp [hw, -Int.natCast_add]
      refine ⟨33 - (i + 1), by omega, i + 1, by omega, rfl, rfl, ?_, h4 _ _ _ hrl' (by omega), ?_, fun b hb => ?_⟩
      · rw [show L.length + (i + 1) = L.length + i + 1 by omega, List.replicate_succ', List.flatMap_append]
        simpa [show intCells mk = [.int .i64 mk] from rfl] using h1
      · refine (hu2.alloc _).trans (Upd.grown (F := fun c => v6.ownBlock = some c) h2 fun c hc => hc) fun c hc hc6 => ?_
        rcases ho6 c hc6 with h | h
        · exact h
        · omega
      · rcases h3 b hb with h | h
        · exact ho6 b h
        · simp at h; exact .inr (by omega)
    · have hi33' : ¬ (i : Int) < 33 := by omega
      obtain rfl : i = 33 := by omega
      have huw : Upd (fun b => l.ownBlock = some b) w w2 := hu2
      have hlB : l.ownBlock ≠ some B := row_not hl hhead (by decide)
      have hvl : ∀ b, v.ownBlock = some b → l.ownBlock ≠ some b := fun b hb => row_ne h.row hl (by decide) hb
      have hh2 : w2.heap[B]? = some (.cells cs 47 (0, 0)) := (huw.old B (blk_lt hhead) hlB).trans hhead
      have hrb2 : w2.ownsRow 0 69 1 v es.length es := row_keep h.row fun g hg => huw.old g (row_lt h.row hg) (hvl g hg)
      have hvB : v.ownBlock ≠ some B := row_not hrb2 hh2 (by decide)
      have hl1 := row_one hl
      simp [hh2, hcs]
      rw [bs40 _ _ hl1 (row_one hr6)]
      have hrb3 : (w2.alloc (.cells #[l, v6] 69)).ownsRow 0 69 1 v es.length es := row_keep hrb2 fun g hg => alloc_old (row_lt hrb2 hg) _
      have hh3 : (w2.alloc (.cells #[l, v6] 69)).heap[B]? = some (.cells cs 47 (0, 0)) := (alloc_old (blk_lt hh2) _).trans hh2
      obtain ⟨inf2, zv, hj1, hj2, hj3, hj4, hj5⟩ := slice_infoI
      refine opK_append1 Try.underlying40 hj1 hj2 hj3 hj4 hj5 (by omega) hrb3 (alloc_new _ _) (m := 2) rfl (by intro u hu; simp at hu; rcases hu with rfl | rfl; exact hl1; exact row_one hr6) (by simp [maxLen]; omega) (by omega) ?_
      intro v' w4 h1 h2 h3
      have hsz4 : w2.heap.size + 1 ≤ w4.heap.size := by simpa using h2.size
      have hh4 : w4.heap[B]? = some (.cells cs 47 (0, 0)) := (h2.block B (blk_lt hh3) (fun e => hvB e.symm)).trans hh3
      have hB' : v'.ownBlock ≠ some B := row_not h1 hh4 (by decide)
      have hszu := huw.size
      have k4 : ∀ g, g < w2.heap.size → v.ownBlock ≠ some g → g ≠ B → ∀ o, (putB w4 B o).heap[g]? = w2.heap[g]? := fun g hg hne hgB o => by
        rw [putB_other hgB, h2.block g (by simp; omega) (fun e => hne e.symm), alloc_old hg]
      simp [hh4, hc3, row_one h1]
      refine ⟨v', v6, putB_same (blk_lt hh4) _, ?_, ?_, fun b hb => ?_, fun b hb => ?_⟩
      · refine h.push (n := L.length) (m := L.length + 33) (row_keep (by simpa using h1) fun g hg => putB_other (fun e => hB' (by rw [← e]; exact hg)) _) ?_ ?_ (by omega) (by omega) fun u hu b hb => ?_
        · rw [hmk]
          exact row_keep hrl fun g hg => k4 g (row_lt hrl hg) (row_ne hrl hrb2 (by decide) hg) (fun e => row_not hrl hh2 (by decide) (by rw [← e]; exact hg)) _
        · rw [hmk]
          exact row_keep hr6 fun g hg => k4 g (row_lt hr6 hg) (row_ne hr6 hrb2 (by decide) hg) (fun e => row_not hr6 hh2 (by decide) (by rw [← e]; exact hg)) _
        · have hbl : Bl v es b := .inr ⟨u, hu, hb⟩
          have hblt := h.lt hbl
          obtain ⟨kk, hkk, rfl⟩ := List.getElem_of_mem hu
          obtain ⟨nn, _, hrr⟩ := h.lists kk es[kk] (by simp [hkk])
          rw [k4 b (by omega) (row_ne hrr h.row (by decide) hb) (fun e => row_not hrr hhead (by decide) (by rw [← e]; exact hb))]
          exact huw.old b hblt fun hl2 => hlo _ hu b hl2 hb
      · refine Upd.putB ?_ (.inr (.inl rfl)) _
        refine ((huw.alloc _).mono fun b hb => .inr (.inr hb)).trans (Upd.grown (F := fun c => v.ownBlock = some c) h2 fun c hc => hc) fun c hc hcv => .inr (.inl hcv)
      · rcases h3 b hb with e | e
        · exact .inl e
        · simp at e; exact .inr (by omega)
      · rcases ho6 b hb with e | e
        · exact .inl e
        · exact .inr (by omega)
end Go.Proofs.Ytaniphdbebdhhaa.Pool
