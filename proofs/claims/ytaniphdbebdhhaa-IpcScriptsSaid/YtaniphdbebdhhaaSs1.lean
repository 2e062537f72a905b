/-
  The law SchedScripts, walked: it returns true, and nothing that lay before has turned. No condition beyond what the theorem names.
-/
import Derived.Test.YtaniphdbebdhhaaTn2
namespace Go.Proofs.Ytaniphdbebdhhaa
open Go.Vk Vk.Sched

structure OpV where
  kd : Int
  a : Int
  b : Int
  c : Int
  d : Int
  s : ByteArray
def opCells (o : OpV) : List Value := [.int .i64 o.kd, .int .i64 o.a, .int .i64 o.b, .int .i64 o.c, .int .i64 o.d, .string o.s]
theorem op_len (o : OpV) : (opCells o).length = 6 := rfl
theorem op_readA {os : List OpV} {cs : Array Value} {o : Nat} (h : ∀ j u, (os.flatMap opCells)[j]? = some u → cs[o + j]? = some u) {k : Nat} (hk : k < os.length) :
    readN cs (o + k * 6) 6 = some (opCells os[k]) := by
  have hf := flat_read op_len os [] k hk
  rw [List.append_nil] at hf
  have key : ∀ (n i : Nat) (vs : List Value), readN (os.flatMap opCells).toArray i n = some vs → readN cs (o + i) n = some vs := by
    intro n
    induction n with
    | zero => intro i vs hv; exact hv
    | succ n ih =>
      intro i vs hv
      simp only [readN] at hv ⊢
      split at hv
      case h_2 => cases hv
      rename_i v hv1
      split at hv
      case h_2 => cases hv
      rename_i vs' hv2
      rw [h i v (by simpa using hv1)]
      simp only
      rw [show o + i + 1 = o + (i + 1) by omega, ih (i + 1) vs' hv2]
      exact hv
  exact key 6 (k * 6) _ hf

theorem bs24one (a b : Int) (ty : TypeId) (w : World) (K : Value → World → Prop) :
    opK Try.prog (.buildSlice 24 1 #[(0, .const (.agg #[.int .i64 a, .int .i64 b]))]) ty w K = K (.slice (some ⟨w.heap.size, 0, none⟩) 1 1) (w.alloc (.cells #[.int .i64 a, .int .i64 b] 36)) := opK_of (by kernel_rfl) rfl
theorem bld47 (ty : TypeId) (w : World) (K : Value → World → Prop) :
    opK Try.prog (.build 47 #[]) ty w K = K (.agg #[nilS, nilS, nilS, nilS, nilS, nilS]) w := opK_of (by kernel_rfl) rfl
theorem bld50 (k a b : Int) (ty : TypeId) (w : World) (K : Value → World → Prop) :
    opK Try.prog (.build 50 #[(0, .const (.int .i64 k)), (1, .const (.int .i64 a)), (2, .const (.int .i64 b))]) ty w K = K (.agg #[.int .i64 k, .int .i64 a, .int .i64 b, .int .i64 0, .int .i64 0, .string ⟨#[]⟩]) w := opK_of (by kernel_rfl) rfl

def zS : PS := ((⟨[(1, 1)], 0, 1, fun _ => none, fun _ => []⟩ : PS).add 0 1 3).2
def zS2 : PS := (zS.readyOp 0).2
theorem z_next : zS2.next.1 = 0 := by rfl
theorem z_ok : POk zS2 := by
  have h0 := Sim.start [(1, 1)] (by decide) (by decide) (by simp)
  have h1 := (h0.add 0 1 3).2
  have h2 := (h1.readyOp 0).2
  exact sim_pok h2 (by decide)

/-- How things stand after j steps: both schedulers and the books in blocks of their own, the third scheduler apart, all else as it was. -/
def St (w0 : World) (x y B xz : Nat) (j : Nat) (w : World) : Prop :=
  ∃ G S R k oz, BothAt G w x y B S R k ∧ Sim S R ∧ R.L.length ≤ 12 * j ∧ R.clock ≤ 12 * j ∧ k ≤ 2 * j ∧ Upd (fun _ => False) w0 w ∧ (∀ b, G b → w0.heap.size ≤ b) ∧
    SchedIn oz w xz zS2 ∧ ∀ b, oz b ≠ none → w0.heap.size ≤ b ∧ ¬ G b

theorem St.turned {w0 w w' : World} {x y B xz j : Nat} {G : Nat → Prop} {R : RS} {k : Nat} {oz : Nat → Option Tag} (hlen : R.L.length ≤ 12 * j) (hcl : R.clock ≤ 12 * j) (hk : k ≤ 2 * j) (hu : Upd (fun _ => False) w0 w) (hG : ∀ b, G b → w0.heap.size ≤ b)
    (hz : SchedIn oz w xz zS2) (hzG : ∀ b, oz b ≠ none → w0.heap.size ≤ b ∧ ¬ G b) {en : Ending} (h : TurnedPost G w x y B R k en w') : en = .returned (.bool true) ∧ St w0 x y B xz (j + 1) w' := by
  obtain ⟨he, G', S', R', k', hB, hsim, hgr, hk', hst⟩ := h
  have g1 := hgr.1
  have g2 := hgr.2
  refine ⟨he, G', S', R', k', oz, hB, hsim, by omega, by omega, by omega, hu.trans hst.2 fun b hb hg => by have := hG b hg; omega, fun b hb => ?_, hz.frame (fun b hb => hst.2.old b (hz.lt hb) (hzG b hb).2) hst.2.size, fun b hb => ⟨(hzG b hb).1, fun hg => ?_⟩⟩
  · rcases hst.1 b hb with h | h
    · exact hG b h
    · exact Nat.le_trans hu.size h
  · rcases hst.1 b hg with h | h
    · exact (hzG b hb).2 h
    · have := hz.lt hb; omega

/-- One step by the law's 'turned'. -/
theorem St.step {w0 w : World} {x y B xz j : Nat} (h : St w0 x y B xz j w) (hj : j ≤ 300000) {cs : Array Value} {kd a b c : Int}
    (c0 : cs[0]? = some (.int .i64 kd)) (c1 : cs[1]? = some (.int .i64 a)) (c2 : cs[2]? = some (.int .i64 b)) (c3 : cs[3]? = some (.int .i64 c)) :
    Calls Try.prog 15 #[.pointer (some ⟨x, 0, none⟩), .pointer (some ⟨y, 0, none⟩), .pointer (some ⟨B, 0, none⟩), .agg cs] w fun en w' => en = .returned (.bool true) ∧ St w0 x y B xz (j + 1) w' := by
  obtain ⟨G, S, R, k, oz, hB, hsim, h1, h2, h3, hu, hG, hz, hzG⟩ := h
  exact (turned_calls hB hsim (by omega) (by omega) (by omega) c0 c1 c2 c3).mono fun en w' hp => St.turned h1 h2 h3 hu hG hz hzG hp

set_option maxRecDepth 100000 in
theorem schedScripts_calls {w : World} {v1 v2 : Value} {ts : List (Int × Int)} {os : List OpV} (hv1 : RowAt w 2 v1 ts.length (turnCells ts)) (hv2 : RowAt w 6 v2 os.length (os.flatMap opCells))
    (hbig : (ts.length + 2) * 16 ≤ 140737488355328) (hbig2 : os.length ≤ 9000000000000000000) :
    Calls Try.prog 4 #[v1, v2] w fun en w' => en = .returned (.bool true) ∧ Upd (fun _ => False) w w' := by
  apply vk4
  unfold vc4
  refine callK_of (lent_calls hv1 hbig) ?_
  rintro r w1 ⟨hu1, b, hbw, rfl, hb⟩
  refine ⟨_, rfl, ?_⟩
  have hrow1 : w1.ownsRow 0 36 2 (.slice (some ⟨b, 0, none⟩) ts.length (ts.length + 2)) ts.length (turnCells ts) := by
    refine row_shut (rest := turnCells [(7, 999), (0, 0)]) (by rw [hb]; simp [turnCells, List.flatMap_append]) (by omega) (by simp [maxLen]; omega) ?_ (flat_len (f := trCells) tr_len ts)
    have := flat_len (f := trCells) tr_len ts
    have h2 : (turnCells ts).length = ts.length * 2 := this
    have h3 : (turnCells [((7 : Int), (999 : Int)), (0, 0)]).length = 4 := rfl
    rw [List.length_append, h2, h3]
    omega
  have hb1 := blk_lt hb
  refine callK_of (New_calls hrow1) ?_
  rintro r w2 ⟨hu2, hnew⟩
  obtain ⟨px, ex, rfl, hx⟩ : ∃ (px : Option Addr) (ex : Int), r = .returned (.tuple #[.pointer px, .int .i64 ex]) ∧ ((¬ OkTs ts ∧ px = none ∧ ex = 1) ∨
      (OkTs ts ∧ ∃ x own, px = some ⟨x, 0, none⟩ ∧ ex = 0 ∧ SchedIn own w2 x ⟨ts, 0, (ts.getD 0 (0, 0)).2, fun _ => none, fun _ => []⟩ ∧ ∀ b, own b ≠ none → w1.heap.size ≤ b)) := by
    rcases hnew with ⟨h1, rfl⟩ | ⟨h1, x, own, rfl, h2, h3⟩
    · exact ⟨_, _, rfl, .inl ⟨h1, rfl, rfl⟩⟩
    · exact ⟨_, _, rfl, .inr ⟨h1, x, own, rfl, rfl, h2, h3⟩⟩
  refine ⟨_, rfl, ?_⟩
  simp
  have hu12 : Upd (fun _ => False) w w2 := hu1.trans hu2 fun _ _ f => f
  have hv1' : RowAt w2 2 v1 ts.length (turnCells ts) := hv1.keep fun g hg _ => hu12.old g hg (fun f => f)
  refine callK_of (RNew_calls hv1') ?_
  rintro r w3 ⟨hu3, hrnew⟩
  obtain ⟨pr, er, rfl, hr⟩ : ∃ (pr : Option Addr) (er : Int), r = .returned (.tuple #[.pointer pr, .int .i64 er]) ∧ ((¬ OkTs ts ∧ pr = none ∧ er = 1) ∨
      (OkTs ts ∧ ∃ x own, pr = some ⟨x, 0, none⟩ ∧ er = 0 ∧ RefIn own w3 x ⟨ts, 0, (ts.getD 0 (0, 0)).2, [], 0⟩ ∧ ∀ b, own b ≠ none → w2.heap.size ≤ b)) := by
    rcases hrnew with ⟨h1, rfl⟩ | ⟨h1, x, own, rfl, h2, h3⟩
    · exact ⟨_, _, rfl, .inl ⟨h1, rfl, rfl⟩⟩
    · exact ⟨_, _, rfl, .inr ⟨h1, x, own, rfl, rfl, h2, h3⟩⟩
  refine ⟨_, rfl, ?_⟩
  simp
  have hu13 : Upd (fun _ => False) w w3 := hu12.trans hu3 fun _ _ f => f
  have hv1'' : RowAt w3 2 v1 ts.length (turnCells ts) := hv1.keep fun g hg _ => hu13.old g hg (fun f => f)
  have hb3 : w3.heap[b]? = some (.cells (turnCells (ts ++ [(7, 999), (0, 0)])).toArray 36 (0, 0)) :=
    (hu3.old b (Nat.lt_of_lt_of_le hb1 hu2.size) (fun f => f)).trans ((hu2.old b hb1 (fun f => f)).trans hb)
  refine callK_of (still_calls hb3 hv1'' (by
    by_cases h0 : ts.length = 0
    · exact .inl h0
    · exact .inr fun e => by have := (hv1.lt e).resolve_left h0; omega) hbig) ?_
  rintro r w4 ⟨rfl, hu4⟩
  refine ⟨_, rfl, ?_⟩
  have hu14 : Upd (fun _ => False) w w4 := hu13.trans hu4 fun c hc e => by omega
  -- the third scheduler
  have hz1 : (w4.alloc (.cells #[.int .i64 1, .int .i64 1] 36)).ownsRow 0 36 2 (.slice (some ⟨w4.heap.size, 0, none⟩) [((1 : Int), (1 : Int))].length 1) [((1 : Int), (1 : Int))].length (turnCells [(1, 1)]) :=
    row_shut (rest := []) (by rw [alloc_new]; rfl) (by simp) (by simp [maxLen]) (by simp [turnCells]) (by simp [turnCells])
  have hokz : OkTs [(1, 1)] := ⟨by decide, by decide, by simp [BadT]⟩
  rcases hx with ⟨hno, rfl, rfl⟩ | ⟨hok, x, own, rfl, rfl, hin, hown⟩
  · rcases hr with ⟨_, rfl, rfl⟩ | ⟨hok, _⟩
    case inr => exact absurd hok hno
    simp [bld36, bs24one]
    refine callK_of (New_calls hz1) ?_
    rintro r w5 ⟨hu5, hz⟩
    rcases hz with ⟨hno2, _⟩ | ⟨_, xz, oz, rfl, hzin, hzown⟩
    · exact absurd hokz hno2
    refine ⟨_, rfl, ?_⟩
    simp
    obtain ⟨tvz, mz, lvz, lz, cz, ebz, hzat⟩ := hzin
    refine callK_of (Add_calls hzat 0 1 3) ?_
    rintro r w6 ⟨rfl, oz6, hz6, hzo6, hzu6⟩
    refine ⟨_, rfl, ?_⟩
    obtain ⟨tvz, mz, lvz, lz, cz, ebz, hzat⟩ := hz6
    refine callK_of (Ready_calls hzat (fun i hi => by simp [PS.add]) 0) ?_
    rintro r w7 ⟨rfl, oz7, hz7, hzo7, hzu7⟩
    refine ⟨_, rfl, ?_⟩
    have hz7' : SchedIn oz7 w7 xz zS2 := hz7
    have hs5 := hu5.size
    simp only [World.size_alloc] at hs5
    have hz6own : ∀ b, oz6 b ≠ none → w4.heap.size ≤ b := fun b hb => by
      rcases hzo6 b hb with h | h
      · have := hzown b h; simp at this; omega
      · omega
    have hz7own : ∀ b, oz7 b ≠ none → w4.heap.size ≤ b := fun b hb => by
      rcases hzo7 b hb with h | h
      · exact hz6own b h
      · have := hzu6.size; omega
    have hu45 : Upd (fun _ => False) w4 w5 := ((Upd.refl _ w4).alloc _).trans hu5 fun _ _ f => f
    have hu46 : Upd (fun _ => False) w4 w6 := hu45.trans hzu6 fun b hb h => by have := hzown b h; simp at this; omega
    have hu47 : Upd (fun _ => False) w4 w7 := hu46.trans hzu7 fun b hb h => by have := hz6own b h; omega
    have hu17 : Upd (fun _ => False) w w7 := hu14.trans hu47 fun _ _ f => f

    exact hu17
  · rcases hr with ⟨hno, _⟩ | ⟨_, y, own2, rfl, rfl, hin2, hown2⟩
    · exact absurd hok hno
    simp [bld36, bs24one]
    refine callK_of (New_calls hz1) ?_
    rintro r w5 ⟨hu5, hz⟩
    rcases hz with ⟨hno2, _⟩ | ⟨_, xz, oz, rfl, hzin, hzown⟩
    · exact absurd hokz hno2
    refine ⟨_, rfl, ?_⟩
    simp
    obtain ⟨tvz, mz, lvz, lz, cz, ebz, hzat⟩ := hzin
    refine callK_of (Add_calls hzat 0 1 3) ?_
    rintro r w6 ⟨rfl, oz6, hz6, hzo6, hzu6⟩
    refine ⟨_, rfl, ?_⟩
    obtain ⟨tvz, mz, lvz, lz, cz, ebz, hzat⟩ := hz6
    refine callK_of (Ready_calls hzat (fun i hi => by simp [PS.add]) 0) ?_
    rintro r w7 ⟨rfl, oz7, hz7, hzo7, hzu7⟩
    refine ⟨_, rfl, ?_⟩
    have hz7' : SchedIn oz7 w7 xz zS2 := hz7
    have hs5 := hu5.size
    simp only [World.size_alloc] at hs5
    have hz6own : ∀ b, oz6 b ≠ none → w4.heap.size ≤ b := fun b hb => by
      rcases hzo6 b hb with h | h
      · have := hzown b h; simp at this; omega
      · omega
    have hz7own : ∀ b, oz7 b ≠ none → w4.heap.size ≤ b := fun b hb => by
      rcases hzo7 b hb with h | h
      · exact hz6own b h
      · have := hzu6.size; omega
    have hu45 : Upd (fun _ => False) w4 w5 := ((Upd.refl _ w4).alloc _).trans hu5 fun _ _ f => f
    have hu46 : Upd (fun _ => False) w4 w6 := hu45.trans hzu6 fun b hb h => by have := hzown b h; simp at this; omega
    have hu47 : Upd (fun _ => False) w4 w7 := hu46.trans hzu7 fun b hb h => by have := hz6own b h; omega
    have hu17 : Upd (fun _ => False) w w7 := hu14.trans hu47 fun _ _ f => f
    rw [bld47]
    -- where things stand
    have hs2 := hu2.size
    have hs3 := hu3.size
    have hs4 := hu4.size
    have hs7 := hu47.size
    have keep2 : ∀ g, w1.heap.size ≤ g → g < w2.heap.size → w7.heap[g]? = w2.heap[g]? := fun g h1 h2 =>
      (hu47.old g (by omega) (fun f => f)).trans ((hu4.old g (by omega) (by omega)).trans (hu3.old g h2 (fun f => f)))
    have keep3 : ∀ g, w2.heap.size ≤ g → g < w3.heap.size → w7.heap[g]? = w3.heap[g]? := fun g h1 h2 =>
      (hu47.old g (by omega) (fun f => f)).trans (hu4.old g (by omega) (by omega))
    have hinl := fun b hb => hin.lt (b := b) hb
    have hinl2 := fun b hb => hin2.lt (b := b) hb
    have hin7 := hin.frame (w' := w7) (fun g hg => keep2 g (hown g hg) (hinl g hg)) (by omega)
    have hin27 := hin2.frame (w' := w7) (fun g hg => keep3 g (hown2 g hg) (hinl2 g hg)) (by omega)
    have hsim : Sim ⟨ts, 0, (ts.getD 0 (0, 0)).2, fun _ => none, fun _ => []⟩ ⟨ts, 0, (ts.getD 0 (0, 0)).2, [], 0⟩ := Sim.start ts hok.1 hok.2.1 fun t ht => by
      have := hok.2.2 t ht
      unfold BadT at this
      omega
    obtain ⟨w8, hw8⟩ : ∃ w8, w7.alloc (.cells (Value.agg #[nilS, nilS, nilS, nilS, nilS, nilS]).cells 47) = w8 := ⟨_, rfl⟩
    have hbk : BooksAt (fun b => b = w7.heap.size) w8 w7.heap.size nilS nilS nilS nilS nilS nilS [] := by
      rw [← hw8]
      exact ⟨alloc_new _ _, World.ownsRow_nil _ 0 69 1, fun k v h => (by simp at h), by simp, rfl, fun b hb => (by simp [Value.ownBlock] at hb), fun v hv => (by cases hv), fun b hb => (by subst hb; simp)⟩
    have hs8 : w7.heap.size ≤ w8.heap.size := by rw [← hw8]; simp
    have hold8 : ∀ g, g < w7.heap.size → w8.heap[g]? = w7.heap[g]? := fun g hg => by rw [← hw8]; exact alloc_old hg _
    have hu18 : Upd (fun _ => False) w w8 := by rw [← hw8]; exact hu17.alloc _
    have hst : St w x y w7.heap.size xz 0 w8 := by
      refine ⟨fun b => own b ≠ none ∨ own2 b ≠ none ∨ b = w7.heap.size, _, _, 0, oz7, ⟨own, own2, fun b => b = w7.heap.size, nilS, [], hin7.frame (fun g hg => hold8 g (hin7.lt hg)) hs8, hin27.frame (fun g hg => hold8 g (hin27.lt hg)) hs8, hbk, rfl, fun g hg => ⟨?_, fun e => ?_⟩, fun g hg e => ?_, fun b => Iff.rfl⟩,
        hsim, by simp, by simp, by simp, hu18, fun g hg => ?_, hz7'.frame (fun g hg => hold8 g (hz7'.lt hg)) hs8, fun g hg => ⟨Nat.le_trans hu14.size (hz7own g hg), ?_⟩⟩
      · cases hh : own2 g with
        | none => rfl
        | some t => have h1 := hown2 g (by rw [hh]; simp); have h2 := hinl g hg; omega
      · have h2 := hinl g hg; omega
      · have h2 := hinl2 g hg; omega
      · have h1 := hu1.size
        rcases hg with h | h | h
        · have := hown g h; omega
        · have := hown2 g h; omega
        · omega
      · have h1 := hz7own g hg
        rintro (h | h | h)
        · have := hinl g h; omega
        · have := hinl2 g h; omega
        · have := hz7'.lt hg; omega
    have hnl : ∀ n : Nat, IntKind.i64.wrap ((n : Int) + 1) = ((n + 1 : Nat) : Int) ∨ ¬ n < 9000000000000000001 := fun n => by
      rcases Nat.lt_or_ge n 9000000000000000001 with h | h
      · left; rw [wrap_i64 (by omega) (by omega)]; rfl
      · right; omega
    obtain ⟨a2, cp2, hvs2⟩ := hv2.slice
    have fold8 : w7.alloc (.cells (Value.agg #[nilS, nilS, nilS, nilS, nilS, nilS]).cells 47) = w8 := hw8
    refine loopK1 (fun m v' wi => ∃ j : Nat, j ≤ os.length ∧ j ≤ 262144 ∧ v' = .int .i64 j ∧ m = os.length - j ∧ St w x y w7.heap.size xz j wi) os.length ⟨0, by omega, by omega, rfl, by omega, by first | exact hst | (have := hst; rw [← hw8] at this; exact this)⟩ ?_
    rintro m v' wi ⟨j, hj, hj2, rfl, rfl, hS⟩
    by_cases hlt : j < os.length ∧ j < 262144
    · obtain ⟨h1, h2⟩ := hlt
      have h1' : (j : Int) < os.length := by omega
      have h2' : (j : Int) < 262144 := by omega
      have hw := (hnl j).resolve_right (by omega)
      rcases hv2 with ⟨_, h0, _⟩ | ⟨g, o, cap, cs, T, fr, rfl, hg, hl, hcs⟩
      · omega
      have hgi : wi.heap[g]? = some (.cells cs T fr) := by
        obtain ⟨_, _, _, _, _, _, _, _, _, _, hu, _⟩ := hS
        exact (hu.old g (blk_lt hg) (fun f => f)).trans hg
      have hrd := op_readA hcs h1
      simp [h1', h2', hgi, hrd, -Int.natCast_add]
      refine callK_of (hS.step (by omega) (kd := os[j].kd) (a := os[j].a) (b := os[j].b) (c := os[j].c) rfl rfl rfl rfl) ?_
      rintro r w9 ⟨rfl, hS9⟩
      refine ⟨_, rfl, ?_⟩
      simp [hw, -Int.natCast_add]
      exact ⟨os.length - (j + 1), by omega, j + 1, by omega, by omega, rfl, rfl, hS9⟩
    · have hc : ¬ (j : Int) < os.length ∨ ((j : Int) < os.length ∧ ¬ (j : Int) < 262144) := by
        by_cases h1 : j < os.length
        · exact .inr ⟨by omega, fun h2 => hlt ⟨h1, by omega⟩⟩
        · exact .inl (by omega)
      subst hvs2
      rcases hc with h1 | ⟨h1, h2⟩
      all_goals
        first
          | simp [h1, h2, -Int.natCast_add]
          | simp [h1, -Int.natCast_add]
        refine loopK1 (fun m v' wi => ∃ d : Nat, d ≤ 8 ∧ v' = .int .i64 d ∧ m = 8 - d ∧ ∃ j : Nat, j ≤ 262144 + 8 * d ∧ St w x y w7.heap.size xz j wi) 8 ⟨0, by omega, rfl, by omega, j, by omega, hS⟩ ?_
        rintro m v' wi2 ⟨d, hd, rfl, rfl, j2, hj2b, hS2⟩
        by_cases hd8 : d < 8
        · have hd8' : (d : Int) < 8 := by omega
          have hwd := (hnl d).resolve_right (by omega)
          simp [hd8', -Int.natCast_add]
          refine loopK1 (fun m v' wi => ∃ p : Nat, p ≤ 8 ∧ v' = .int .i64 p ∧ m = 8 - p ∧ ∃ j : Nat, j ≤ 262144 + 8 * d + p ∧ St w x y w7.heap.size xz j wi) 8 ⟨0, by omega, rfl, by omega, j2, by omega, hS2⟩ ?_
          rintro m v' wi3 ⟨p, hp, rfl, rfl, j3, hj3, hS3⟩
          by_cases hp8 : p < 8
          · have hp8' : (p : Int) < 8 := by omega
            have hwp := (hnl p).resolve_right (by omega)
            simp [hp8', hwd, hwp, bld50, -Int.natCast_add]
            refine callK_of (hS3.step (by omega) rfl rfl rfl rfl) ?_
            rintro r w9 ⟨rfl, hS9⟩
            refine ⟨_, rfl, ?_⟩
            simp [-Int.natCast_add]
            exact ⟨8 - (p + 1), by omega, p + 1, by omega, rfl, rfl, j3 + 1, by omega, hS9⟩
          · have hp8' : ¬ (p : Int) < 8 := by omega
            simp [hp8', hwd, -Int.natCast_add]
            exact ⟨8 - (d + 1), by omega, d + 1, by omega, rfl, rfl, j3, by omega, hS3⟩
        · have hd8' : ¬ (d : Int) < 8 := by omega
          simp [hd8', -Int.natCast_add]
          obtain ⟨G, S, R, k, oz, hB, hsim2, hl1, hl2, hl3, hu9, hG, hz9, hzG⟩ := hS2
          obtain ⟨_, _, ob, bv, es, _, _, hbk2, hes, _⟩ := hB
          refine callK_of (reads_calls hbk2 (by omega)) ?_
          rintro r w9 ⟨rfl, rfl⟩
          refine ⟨_, rfl, ?_⟩
          obtain ⟨tvz, mz, lvz, lz, cz, ebz, hzat9⟩ := hz9
          refine callK_of (Next_calls hzat9 z_ok) ?_
          rintro r w10 ⟨rfl, _, _, hzo10, hzu10⟩
          refine ⟨_, rfl, ?_⟩
          simp [z_next]
          exact hu9.trans hzu10 fun g hg hh => by have := (hzG g hh).1; omega
end Go.Proofs.Ytaniphdbebdhhaa
