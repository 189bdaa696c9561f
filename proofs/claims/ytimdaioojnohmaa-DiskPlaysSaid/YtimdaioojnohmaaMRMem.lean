/-
  The document's disk in memory.
  What may be done with the document's disk in memory; end 88 walked.
  The document's disk: fit 61, flushes 87, Tick 66.
-/
import Derived.Test.YtimdaioojnohmaaMDInv
import Derived.Test.YtimdaioojnohmaaMQTwo
import Derived.Test.YtimdaioojnohmaaMRLate
import Derived.Test.YtimdaioojnohmaaMRefSplit
namespace Go.Proofs.Ytimdaioojnohmaa
open Go.RowKit Go.Maps

theorem Try.info149 : (Try.prog.info? 149).map (fun i => (i.zero, i.size, i.bytes)) = some (some (.agg #[.int .i64 0, .slice none 0 0, .slice none 0 0, .slice none 0 0, .slice none 0 0, .int .i64 0]), 6, 112) := by kernel_rfl
theorem Try.info137 : (Try.prog.info? 137).map (fun i => (i.zero, i.size, i.bytes)) = some (some (.agg #[.int .u64 0, .int .i64 0, .int .u64 0, .int .u32 0, .int .u32 0, .bool false, .string ByteArray.empty]), 7, 56) := by kernel_rfl
theorem Try.info4 : (Try.prog.info? 4).map (fun i => (i.zero, i.size, i.bytes)) = some (some (.bool false), 1, 1) := by kernel_rfl
theorem Try.info9 : (Try.prog.info? 9).map (fun i => (i.zero, i.size, i.bytes)) = some (some (.string ByteArray.empty), 1, 16) := by kernel_rfl

/-- What a task is: 1 a write, 2 a read, 3 a flush. -/
def rkind (t : DTask) : Nat := if t.parts = [] then 3 else if t.write then 1 else 2
/-- The slices of a task: its parts, which are told, what was read, for whom it waits. -/
structure RV where
  p : Value
  t : Value
  s : Value
  f : Value
def tcell (t : DTask) (v : RV) : List Value := [.int .i64 (rkind t : Nat), v.p, v.t, v.s, v.f, .int .i64 (t.state : Nat)]
theorem tcell_len (t : DTask) (v : RV) : (tcell t v).length = 6 := rfl
def toldc (p : DPart) : Value := .bool p.told
def gotc (p : DPart) : Value := .string p.got
/-- A row that is one's own, whose block lies in [lo, hi). -/
def RowIn (w : World) (e : TypeId) (size lo hi n : Nat) (v : Value) (cs : List Value) : Prop := ∃ A k, v = .slice A n k ∧ w.ownsRow 0 e size (.slice A n k) n cs ∧ ∀ b, (Value.slice A n k).ownBlock = some b → lo ≤ b ∧ b < hi
theorem RowIn.keepZ {w w' : World} {e : TypeId} {size lo hi n : Nat} {v : Value} {cs : List Value} {T : Nat → Option TypeId → Prop} (h : RowIn w e size lo hi n v cs) (hk : KeepZ T w w') (hT : ∀ k, lo ≤ k → k < hi → ¬ T k (some e)) : RowIn w' e size lo hi n v cs := by
  obtain ⟨A, k, rfl, ho, hb⟩ := h
  exact ⟨A, k, rfl, hk.row ho (fun i hi => hT i (hb i hi).1 (hb i hi).2), hb⟩
/-- A task of the document; its rows lie in [lo, hi), and apart from X. -/
structure RTAt (X : Nat → Prop) (w : World) (lo hi : Nat) (x : DTask) (v : RV) : Prop where
  p : RowIn w 137 7 lo hi x.parts.length v.p (x.parts.flatMap acells)
  t : RowIn w 4 1 lo hi x.parts.length v.t (x.parts.map toldc)
  s : RowIn w 9 1 lo hi x.parts.length v.s (x.parts.map gotc)
  f : RX X w v.f x.wants
theorem RTAt.keepZ {X : Nat → Prop} {w w' : World} {lo hi : Nat} {t : DTask} {v : RV} {T : Nat → Option TypeId → Prop} (h : RTAt X w lo hi t v) (hk : KeepZ T w w') (hT : ∀ k, lo ≤ k → k < hi → ¬ T k (some 137) ∧ ¬ T k (some 4) ∧ ¬ T k (some 9)) (h29 : ∀ k, ¬ X k → ¬ T k (some 29)) : RTAt X w' lo hi t v :=
  ⟨h.p.keepZ hk (fun k a b => (hT k a b).1), h.t.keepZ hk (fun k a b => (hT k a b).2.1), h.s.keepZ hk (fun k a b => (hT k a b).2.2), by
    obtain ⟨⟨A, k, e, ho⟩, hx⟩ := h.f
    refine ⟨⟨A, k, e, hk.row ho (fun i hi => h29 i (hx i (by rw [e]; exact hi)))⟩, hx⟩⟩
/-- The document's disk at block g; C, T: its slices of chunks and of tasks; each task's slices; the tasks' marks. -/
structure RD (X : Nat → Prop) (B hi : Nat) (w : World) (g : Nat) (D : DD) (qb : Nat) (C T : Value) (vs : Nat → RV) (lo : Nat → Nat) : Prop where
  blk : w.heap[g]? = some (.cells #[.int .u32 (D.per : Nat), .int .u32 (D.blocks : Nat), C, .pointer (some ⟨qb, 0, none⟩), T] 61 (0, 0))
  base : B ≤ g
  q : RAt B w qb D.most D.pat D.q
  c : ∃ A k, C = .slice A D.chunks.length k ∧ w.ownsRow 0 29 1 C D.chunks.length (D.chunks.map u64v) ∧ ∀ b, C.ownBlock = some b → X b ∧ B ≤ b
  t : ∃ A k, T = .slice A D.ts.length k ∧ w.ownsRow 0 149 6 T D.ts.length ((List.range D.ts.length).flatMap (fun i => tcell (D.ts.getD i default) (vs i))) ∧ ∀ b, T.ownBlock = some b → B ≤ b
  ts : ∀ i, i < D.ts.length → RTAt X w (lo i) (lo (i + 1)) (D.ts.getD i default) (vs i)
  mono : ∀ i, lo i ≤ lo (i + 1)
  lo0 : B ≤ lo 0
  hi1 : lo D.ts.length ≤ hi
  hi2 : hi ≤ w.heap.size
/-- What the document's calls may write. -/
def TD (X : Nat → Prop) (B : Nat) : Nat → Option TypeId → Prop := fun k s => B ≤ k ∧ (s = some 61 ∨ s = some 109 ∨ s = some 111 ∨ s = some 149 ∨ s = some 4 ∨ s = some 9 ∨ (s = some 29 ∧ X k))
section
variable {X : Nat → Prop} {B hi : Nat} {w w' : World} {g qb : Nat} {D : DD} {C T : Value} {vs : Nat → RV} {lo : Nat → Nat}
theorem RD.keepZ {U : Nat → Option TypeId → Prop} (h : RD X B hi w g D qb C T vs lo) (hk : KeepZ U w w') (hU : ∀ k s, U k s → s ≠ some 61 ∧ s ≠ some 109 ∧ s ≠ some 111 ∧ s ≠ some 149 ∧ s ≠ some 137 ∧ s ≠ some 4 ∧ s ≠ some 9 ∧ s ≠ some 29) : RD X B hi w' g D qb C T vs lo := by
  refine ⟨hk.blk h.blk (fun e => (hU _ _ e).1 rfl), h.base, h.q.keep hk (fun k => ⟨fun e => (hU _ _ e).2.1 rfl, fun e => (hU _ _ e).2.2.1 rfl⟩), ?_, ?_, fun i hil => (h.ts i hil).keepZ hk (fun k _ _ => ⟨fun e => (hU _ _ e).2.2.2.2.1 rfl, fun e => (hU _ _ e).2.2.2.2.2.1 rfl, fun e => (hU _ _ e).2.2.2.2.2.2.1 rfl⟩) (fun k _ e => (hU _ _ e).2.2.2.2.2.2.2 rfl), h.mono, h.lo0, h.hi1, Nat.le_trans h.hi2 hk.size⟩
  · obtain ⟨A, k, e, ho, hb⟩ := h.c
    exact ⟨A, k, e, hk.row ho (fun i _ e => (hU _ _ e).2.2.2.2.2.2.2 rfl), hb⟩
  · obtain ⟨A, k, e, ho, hb⟩ := h.t
    exact ⟨A, k, e, hk.row ho (fun i _ e => (hU _ _ e).2.2.2.1 rfl), hb⟩
theorem RD.no (h : RD X B hi w g D qb C T vs lo) (hk : Keep No w w') : RD X B hi w' g D qb C T vs lo := h.keepZ (U := fun _ _ => False) (KeepZ.of hk) (fun _ _ h => h.elim)
theorem RD.up {hi' : Nat} (h : RD X B hi w g D qb C T vs lo) (h1 : hi ≤ hi') (h2 : hi' ≤ w.heap.size) : RD X B hi' w g D qb C T vs lo := ⟨h.blk, h.base, h.q, h.c, h.t, h.ts, h.mono, h.lo0, Nat.le_trans h.hi1 h1, h2⟩
theorem RD.cells (h : RD X B hi w g D qb C T vs lo) : w.cell? ⟨g, 0, none⟩ = some (.int .u32 (D.per : Nat)) ∧ w.cell? ⟨g, 1, none⟩ = some (.int .u32 (D.blocks : Nat)) ∧ w.cell? ⟨g, 2, none⟩ = some C ∧ w.cell? ⟨g, 3, none⟩ = some (.pointer (some ⟨qb, 0, none⟩)) ∧ w.cell? ⟨g, 4, none⟩ = some T :=
  ⟨(blk_cell h.blk 0).trans rfl, (blk_cell h.blk 1).trans rfl, (blk_cell h.blk 2).trans rfl, (blk_cell h.blk 3).trans rfl, (blk_cell h.blk 4).trans rfl⟩
theorem RowIn.shape {e : TypeId} {size lo hi n : Nat} {v : Value} {cs : List Value} (h : RowIn w e size lo hi n v cs) (hn : 0 < n) : ∃ b k, v = .slice (some ⟨b, 0, none⟩) n k ∧ n ≤ k ∧ lo ≤ b ∧ b < hi ∧ (∃ cur, w.heap[b]? = some (.cells cur e (0, 0))) ∧ ∀ j u, cs[j]? = some u → w.cell? ⟨b, j, none⟩ = some u := by
  obtain ⟨A, k, rfl, ho, hb⟩ := h
  rcases ho.2 with ⟨hv, h0⟩ | ⟨b, cap, cur, hv, _, hg, hcc, _⟩
  · omega
  · injection hv with hA _ hk
    subst hA hk
    refine ⟨b, k, rfl, hcc, (hb b rfl).1, (hb b rfl).2, ⟨cur, hg⟩, fun j u hj => ?_⟩
    have := ho.cells (g := b) rfl j u hj
    rwa [Addr.add_at, Nat.zero_add] at this
/-- The row of tasks. -/
theorem RD.row (h : RD X B hi w g D qb C T vs lo) (hn : 0 < D.ts.length) : ∃ b k, T = .slice (some ⟨b, 0, none⟩) D.ts.length k ∧ D.ts.length ≤ k ∧ B ≤ b ∧ (∃ cur, w.heap[b]? = some (.cells cur 149 (0, 0))) ∧
    ∀ i, i < D.ts.length → ∀ j u, j < 6 → (tcell (D.ts.getD i default) (vs i))[j]? = some u → w.cell? ⟨b, i * 6 + j, none⟩ = some u := by
  obtain ⟨A, k, rfl, ho, hb⟩ := h.t
  rcases ho.2 with ⟨hv, h0⟩ | ⟨b, cap, cur, hv, _, hg, hcc, _⟩
  · omega
  · injection hv with hA _ hk
    subst hA hk
    refine ⟨b, k, rfl, hcc, hb b rfl, ⟨cur, hg⟩, fun i hi j u hj hu => ?_⟩
    have := ho.cells (g := b) rfl (i * 6 + j) u (by
      rw [flat_get (fun i => tcell (D.ts.getD i default) (vs i)) 6 (fun _ => rfl) (List.range D.ts.length) i j (by simpa using hi) hj, List.getElem_range]
      exact hu)
    rwa [Addr.add_at, Nat.zero_add] at this
end
theorem flat_set (n i j k : Nat) (f f' : Nat → List Value) (u : Value) (hf : ∀ x, (f x).length = k) (hf' : ∀ x, (f' x).length = k) (hi : i < n) (hj : j < k) (h1 : f' i = (f i).set j u) (h2 : ∀ x, x ≠ i → f' x = f x) : ((List.range n).flatMap f).set (i * k + j) u = (List.range n).flatMap f' := by
  have hk : 0 < k := by omega
  apply List.ext_getElem?
  intro m
  have hm : m = m / k * k + m % k := by have := Nat.div_add_mod m k; rw [Nat.mul_comm] at this; exact this.symm
  have hmk := Nat.mod_lt m hk
  by_cases hlt : m / k < n
  · have e1 : ((List.range n).flatMap f)[m]? = (f (m / k))[m % k]? := by
      conv => lhs; rw [hm]
      rw [flat_get f k hf (List.range n) (m / k) (m % k) (by simpa using hlt) hmk, List.getElem_range]
    have e2 : ((List.range n).flatMap f')[m]? = (f' (m / k))[m % k]? := by
      conv => lhs; rw [hm]
      rw [flat_get f' k hf' (List.range n) (m / k) (m % k) (by simpa using hlt) hmk, List.getElem_range]
    rw [List.getElem?_set, e2]
    by_cases e : i * k + j = m
    · have hd : m / k = i := by rw [← e, Nat.mul_comm, Nat.mul_add_div hk, Nat.div_eq_of_lt hj, Nat.add_zero]
      have hr : m % k = j := by rw [← e, Nat.mul_comm, Nat.mul_add_mod, Nat.mod_eq_of_lt hj]
      have hml : m < ((List.range n).flatMap f).length := by
        rw [flat_len f k hf, List.length_range]
        have : m / k * k + m % k < n * k := by
          have := Nat.mul_le_mul_right k (show m / k + 1 ≤ n by omega)
          rw [Nat.add_mul] at this
          omega
        omega
      rw [if_pos e, if_pos (by omega), hd, hr, h1, List.getElem?_set_self (by rw [hf]; exact hj)]
    · rw [if_neg e, e1]
      by_cases hd : m / k = i
      · rw [hd, h1, List.getElem?_set_ne (fun h => e (by rw [h]; rw [hd] at hm; exact hm.symm))]
      · rw [h2 _ hd]
  · have hml : ∀ f0 : Nat → List Value, (∀ x, (f0 x).length = k) → ((List.range n).flatMap f0).length ≤ m := fun f0 h0 => by
      rw [flat_len f0 k h0, List.length_range]
      have := Nat.mul_le_mul_right k (show n ≤ m / k by omega)
      omega
    rw [List.getElem?_eq_none (by rw [List.length_set]; exact hml f hf), List.getElem?_eq_none (hml f' hf')]
end Go.Proofs.Ytimdaioojnohmaa

namespace Go.Proofs.Ytimdaioojnohmaa
open Go.RowKit Go.Maps

def TS (B : Nat) : Nat → Option TypeId → Prop := fun k s => B ≤ k ∧ s = some 149
theorem TS.to {X : Nat → Prop} {B : Nat} : ∀ k s, TS B k s → TD X B k s := fun _ _ ⟨h, e⟩ => ⟨h, by simp [e]⟩
theorem TR.td {X : Nat → Prop} {B : Nat} : ∀ k s, TR B k s → TD X B k s := fun _ _ ⟨h, e⟩ => ⟨h, by rcases e with e | e <;> simp [e]⟩
section
variable {X : Nat → Prop} {B hi : Nat} {w w' : World} {g qb : Nat} {D : DD} {C T : Value} {vs : Nat → RV} {lo : Nat → Nat}
theorem RD.bsize (h : RD X B hi w g D qb C T vs lo) : B ≤ w.heap.size := Nat.le_trans h.base (Nat.le_of_lt (lt_of_block h.blk))
/-- The queue is changed. -/
theorem RD.queue (h : RD X B hi w g D qb C T vs lo) {q' : QL} (hq : RAt B w' qb D.most D.pat q') (hk : KeepZ (TR B) w w') : RD X B hi w' g { D with q := q' } qb C T vs lo := by
  have no : ∀ k s, s = some 61 ∨ s = some 149 ∨ s = some 137 ∨ s = some 4 ∨ s = some 9 ∨ s = some 29 → ¬ TR B k s := fun k s e ⟨_, h⟩ => by
    rcases e with rfl | rfl | rfl | rfl | rfl | rfl <;> rcases h with h | h <;> simp at h
  refine ⟨hk.blk h.blk (no _ _ (by simp [sig])), h.base, hq, ?_, ?_, fun i hil => (h.ts i hil).keepZ hk (fun k _ _ => ⟨no _ _ (by simp), no _ _ (by simp), no _ _ (by simp)⟩) (fun k _ => no _ _ (by simp)), h.mono, h.lo0, h.hi1, Nat.le_trans h.hi2 hk.size⟩
  · obtain ⟨A, k, e, ho, hb⟩ := h.c
    exact ⟨A, k, e, hk.row ho (fun i _ => no _ _ (by simp)), hb⟩
  · obtain ⟨A, k, e, ho, hb⟩ := h.t
    exact ⟨A, k, e, hk.row ho (fun i _ => no _ _ (by simp)), hb⟩
/-- A task's state is set. -/
theorem RD.state (h : RD X B hi w g D qb C T vs lo) (i : Nat) (hil : i < D.ts.length) (n : Nat) : ∃ b k, T = .slice (some ⟨b, 0, none⟩) D.ts.length k ∧ D.ts.length ≤ k ∧
    (∀ i, i < D.ts.length → ∀ j u, j < 6 → (tcell (D.ts.getD i default) (vs i))[j]? = some u → w.cell? ⟨b, i * 6 + j, none⟩ = some u) ∧ (∃ cur, w.heap[b]? = some (.cells cur 149 (0, 0))) ∧
    RD X B hi (w.setCell ⟨b, i * 6 + 5, none⟩ (.int .i64 (n : Nat))) g { D with ts := D.ts.set i { D.ts.getD i default with state := n } } qb C T vs lo ∧ KeepZ (TS B) w (w.setCell ⟨b, i * 6 + 5, none⟩ (.int .i64 (n : Nat))) := by
  obtain ⟨b, k, rfl, hk, hB, ⟨cur, hcur⟩, hc⟩ := h.row (by omega)
  have hz : KeepZ (TS B) w (w.setCell ⟨b, i * 6 + 5, none⟩ (.int .i64 (n : Nat))) := (KeepZ.refl _ w).setCell (p := ⟨b, i * 6 + 5, none⟩) hcur ⟨hB, rfl⟩ _
  refine ⟨b, k, rfl, hk, hc, ⟨cur, hcur⟩, ?_, hz⟩
  have no : ∀ k s, s ≠ some 149 → ¬ TS B k s := fun k s e ⟨_, h⟩ => e h
  have hlen : (D.ts.set i { D.ts.getD i default with state := n }).length = D.ts.length := List.length_set
  have hget : ∀ x, x ≠ i → (D.ts.set i { D.ts.getD i default with state := n }).getD x default = D.ts.getD x default := fun x hx => by rw [getD_set, if_neg (by omega)]
  have hgi : (D.ts.set i { D.ts.getD i default with state := n }).getD i default = { D.ts.getD i default with state := n } := by rw [getD_set, if_pos ⟨rfl, hil⟩]
  refine ⟨hz.blk h.blk (no _ _ (by simp [sig])), h.base, h.q.keep hz (fun k => ⟨no _ _ (by simp), no _ _ (by simp)⟩), ?_, ?_, fun j hj => ?_, h.mono, h.lo0, by simp only [hlen]; exact h.hi1, Nat.le_trans h.hi2 hz.size⟩
  · obtain ⟨A, k, e, ho, hb⟩ := h.c
    exact ⟨A, k, e, hz.row ho (fun i _ => no _ _ (by simp)), hb⟩
  · obtain ⟨A, k', e, ho, hb⟩ := h.t
    have hs := own_set ho (i * 6 + 5) (.int .i64 (n : Nat))
    rw [flat_set D.ts.length i 5 6 _ (fun x => tcell ((D.ts.set i { D.ts.getD i default with state := n }).getD x default) (vs x)) _ (fun _ => rfl) (fun _ => rfl) hil (by omega) (by simp only [hgi]; rfl) (fun x hx => by simp only [hget x hx])] at hs
    simp only [hlen]
    exact ⟨A, k', e, hs, hb⟩
  · simp only [hlen] at hj
    have hj' := (h.ts j hj).keepZ hz (fun k _ _ => ⟨no _ _ (by simp), no _ _ (by simp), no _ _ (by simp)⟩) (fun k _ => no _ _ (by simp))
    by_cases e : j = i
    · subst e
      simp only [hgi]
      exact ⟨hj'.p, hj'.t, hj'.s, hj'.f⟩
    · simp only [hget j e]
      exact hj'
set_option maxRecDepth 100000 in
set_option maxHeartbeats 1000000 in
theorem rend_any (h : RD X B hi w g D qb C T vs lo) (i : Nat) (hil : i < D.ts.length) (few : D.ts.length ≤ 1048576) :
    Calls Try.prog 88 #[.pointer (some ⟨g, 0, none⟩), .int .i64 (i : Nat)] w fun e w' => (∃ v, e = .returned v) ∧ RD X B hi w' g (dend D (i + 1)) qb C T vs lo ∧ KeepZ (TD X B) w w' := by
  obtain ⟨-, -, -, c3, c4⟩ := h.cells
  obtain ⟨b, k, rfl, hlk, hcell, ⟨cur, hcur⟩, h2, hz⟩ := h.state i hil 2
  have t5 := hcell i hil 5 _ (by omega) rfl
  have f5 : w.frozen? ⟨b, i * 6 + 5, none⟩ = false := blk_free hcur _
  have HD := Lib.hid (rdone_any B qb _ _ (i + 1) _ _ h2.q h2.bsize)
  have H2 := Lib.hid h2
  have HZ := Lib.hid hz
  have C3 := Lib.hid (h2.cells.2.2.2.1)
  clear h hcell hcur h2 hz
  go_enter Try.func88, Try.ntmps88
  go_wp2_with fail
  refine HD.out.mono ?_
  rintro e w2 ⟨rfl, hq3, hk3⟩
  have h3 := H2.out.queue hq3 hk3
  have HH := Lib.hid h3
  clear h3 hq3
  go_wp2_with fail
  go_end0
  refine ⟨⟨_, rfl⟩, ?_, (HZ.out.mono TS.to).trans (hk3.mono TR.td)⟩
  unfold dend
  rw [Nat.add_sub_cancel]
  exact HH.out
end
end Go.Proofs.Ytimdaioojnohmaa

namespace Go.Proofs.Ytimdaioojnohmaa
open Go.RowKit Go.Maps
theorem rfit_any (per blocks : Nat) (n : Nat) (w : World) (hp : per < 4294967296) (hb : blocks < 4294967296) (hn : n ≤ 140737488355328) : Calls Try.prog 61 #[.int .u32 per, .int .u32 blocks, .int .i64 (n : Nat)] w fun e w' => e = .returned (.bool (dfit per blocks n)) ∧ w = w' := by
  by_cases h1 : 1 ≤ per
  · by_cases h2 : per ≤ 64
    · by_cases h3 : 1 ≤ blocks
      · obtain ⟨m, hm⟩ : ∃ m, m = blocks - 1 := ⟨_, rfl⟩
        obtain ⟨d, hd⟩ : ∃ d, d = m / per := ⟨_, rfl⟩
        have hm1 : (blocks : Int) - 1 = (m : Nat) := by omega
        have hm2 := IntWalk.u32_in (m : Int) (by omega)
        have hdm : d ≤ m := by rw [hd]; exact Nat.div_le_self _ _
        have hq : (m : Int).tdiv (per : Int) = (d : Nat) := by rw [hd]; rfl
        have hp0 : ((per : Int) == 0) = false := beq_eq_false_iff_ne.2 (by omega)
        have hd2 := IntWalk.u64_in ((d : Int) + 1) (by omega)
        have hd3 := IntWalk.u64_in (d : Int) (by omega)
        have hn3 := IntWalk.u64_in (n : Int) (by omega)
        have hd4 := IntWalk.u32_in (d : Int) (by omega)
        have hE : dfit per blocks n = (n == d + 1) := by unfold dfit; rw [decide_eq_true h1, decide_eq_true h2, decide_eq_true h3, ← hm, ← hd]; rfl
        have HE := Lib.hid hE
        have e1 : decide ((1 : Int) ≤ (per : Int)) = true := by simp; omega
        have e2 : decide ((per : Int) ≤ 64) = true := by simp; omega
        have e3 : decide ((1 : Int) ≤ (blocks : Int)) = true := by simp; omega
        have hx : ((n : Int) == (d : Int) + 1) = (n == d + 1) := by
          rw [Bool.eq_iff_iff, beq_iff_eq, beq_iff_eq]; omega
        have HX := Lib.hid hx
        clear hE hm hd hdm hx hp hb hn
        go_enter Try.func61, Try.ntmps61
        go_wp2_with fail
        go_ret
        refine ⟨ret_bool ?_, rfl⟩
        rw [HE.out, ← HX.out]
      · have hE : dfit per blocks n = false := by unfold dfit; rw [decide_eq_false h3]; simp
        have HE := Lib.hid hE
        have e1 : decide ((1 : Int) ≤ (per : Int)) = true := by simp; omega
        have e2 : decide ((per : Int) ≤ 64) = true := by simp; omega
        have e3 : decide ((1 : Int) ≤ (blocks : Int)) = false := by simp; omega
        clear hE
        go_enter Try.func61, Try.ntmps61
        go_wp2_with fail
        go_ret
        exact ⟨ret_bool HE.out.symm, rfl⟩
    · have hE : dfit per blocks n = false := by unfold dfit; rw [decide_eq_false h2]; simp
      have HE := Lib.hid hE
      have e1 : decide ((1 : Int) ≤ (per : Int)) = true := by simp; omega
      have e2 : decide ((per : Int) ≤ 64) = false := by simp; omega
      clear hE
      go_enter Try.func61, Try.ntmps61
      go_wp2_with fail
      go_ret
      exact ⟨ret_bool HE.out.symm, rfl⟩
  · have hE : dfit per blocks n = false := by unfold dfit; rw [decide_eq_false h1]; simp
    have HE := Lib.hid hE
    have e1 : decide ((1 : Int) ≤ (per : Int)) = false := by simp; omega
    clear hE
    go_enter Try.func61, Try.ntmps61
    go_wp2_with fail
    go_ret
    exact ⟨ret_bool HE.out.symm, rfl⟩

/-- A task is looked at: a flush that waits, and may be done, is done. -/
def gstep (D : DD) (i : Nat) : DD := if rkind (D.ts.getD i default) = 3 ∧ (D.ts.getD i default).state = 1 then fstep D (i + 1) else D
theorem rkind3 (t : DTask) : rkind t = 3 ↔ t.parts.length = 0 := by
  unfold rkind
  constructor
  · intro h
    split at h
    · rename_i e; rw [e]; rfl
    · split at h <;> omega
  · intro h
    rw [if_pos (List.eq_nil_of_length_eq_zero h)]
theorem dend_far (D : DD) (id j : Nat) (h : j ≠ id - 1) : (dend D id).ts.getD j default = D.ts.getD j default := by
  unfold dend
  simp only [getD_set]
  rw [if_neg (by omega)]
theorem fstep_far (D : DD) (id j : Nat) (h : j ≠ id - 1) : (fstep D id).ts.getD j default = D.ts.getD j default := by
  unfold fstep
  split
  · exact dend_far D id j h
  · rfl
theorem gstep_far (D : DD) (i j : Nat) (h : j ≠ i) : (gstep D i).ts.getD j default = D.ts.getD j default := by
  unfold gstep
  split
  · exact fstep_far D (i + 1) j (by omega)
  · rfl
theorem gstep_len (D : DD) (i : Nat) : (gstep D i).ts.length = D.ts.length := by
  unfold gstep
  split
  · exact fstep_len D _
  · rfl
theorem gstep_wok {D : DD} (h : WOk D) (i : Nat) : WOk (gstep D i) := by
  unfold gstep
  split
  · exact fstep_wok h _
  · exact h
def gfold (D : DD) (k : Nat) : DD := (List.range k).foldl gstep D
theorem gfold_succ (D : DD) (k : Nat) : gfold D (k + 1) = gstep (gfold D k) k := by
  unfold gfold
  rw [List.range_succ, List.foldl_append]; rfl
theorem gfold_far (D : DD) (k j : Nat) (h : k ≤ j) : (gfold D k).ts.getD j default = D.ts.getD j default := by
  induction k with
  | zero => rfl
  | succ k ih => rw [gfold_succ, gstep_far _ _ _ (by omega), ih (by omega)]
theorem gfold_len (D : DD) (k : Nat) : (gfold D k).ts.length = D.ts.length := by
  induction k with
  | zero => rfl
  | succ k ih => rw [gfold_succ, gstep_len, ih]
theorem gfold_wok {D : DD} (h : WOk D) (k : Nat) : WOk (gfold D k) := by
  induction k with
  | zero => exact h
  | succ k ih => rw [gfold_succ]; exact gstep_wok ih _
theorem gfold_eq (D : DD) (k : Nat) : gfold D k = (((List.range k).filter (fun i => ((D.ts.getD i default).state == 1) && ((D.ts.getD i default).parts.length == 0))).map (· + 1)).foldl fstep D := by
  induction k with
  | zero => rfl
  | succ k ih =>
    rw [gfold_succ, List.range_succ, List.filter_append, List.map_append, List.foldl_append, ← ih]
    have hf := gfold_far D k k (Nat.le_refl _)
    unfold gstep
    rw [hf]
    by_cases hc : rkind (D.ts.getD k default) = 3 ∧ (D.ts.getD k default).state = 1
    · rw [if_pos hc, List.filter_cons_of_pos (by simp only [Bool.and_eq_true, beq_iff_eq]; exact ⟨hc.2, (rkind3 _).1 hc.1⟩)]
      rfl
    · rw [if_neg hc, List.filter_cons_of_neg (by simp only [Bool.and_eq_true, beq_iff_eq]; exact fun e => hc ⟨(rkind3 _).2 e.2, e.1⟩)]
      rfl
theorem gfold_all (D : DD) : gfold D D.ts.length = dflushes D := gfold_eq D D.ts.length
theorem beq_nat (a b : Nat) : ((a : Int) == (b : Int)) = (a == b) := by
  rw [Bool.eq_iff_iff, beq_iff_eq, beq_iff_eq]; omega

end Go.Proofs.Ytimdaioojnohmaa
