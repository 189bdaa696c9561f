/-
  The program's disk in memory; its map of tasks.
-/
import Derived.Test.YtimdaioojnohmaaDPlain
import Derived.Test.YtimdaioojnohmaaQMap
namespace Go.Proofs.Ytimdaioojnohmaa
open Go.RowKit Go.Maps

theorem Try.info125 : (Try.prog.info? 125).map (fun i => (i.zero, i.size, i.bytes)) = some (some (.agg #[.int .u64 0, .int .i64 0, .int .u64 0, .int .u32 0, .int .u32 0, .bool false, .string ByteArray.empty]), 7, 56) := by kernel_rfl
theorem Try.info145 : (Try.prog.info? 145).map (fun i => (i.zero, i.size, i.bytes)) = some (some (.agg #[.int .u64 0, .int .i64 0, .int .u64 0, .int .u32 0, .int .u32 0, .bool false, .string ByteArray.empty, .bool false, .string ByteArray.empty]), 9, 80) := by kernel_rfl
theorem zero139 (w : World) : (zeroValue 139).run Try.prog w = .ok (.pointer none) w := by kernel_rfl

/-- How a pointer to a whole object reads: its block's number. -/
def ptrR : Value → Option (DataW Unit × List MemPlace)
  | .pointer none => some (.nil, [])
  | .pointer (some ⟨b, 0, none⟩) => some (.lit (.int .u64 (b : Nat)), [])
  | _ => none
def optD : Option Nat → DataW Unit
  | none => .nil
  | some b => .lit (.int .u64 (b : Nat))
def optP : Option Nat → Value
  | none => .pointer none
  | some b => .pointer (some ⟨b, 0, none⟩)
theorem ptrR_inv {v : Value} {o : Option Nat} {ps : List MemPlace} (h : ptrR v = some (optD o, ps)) : v = optP o := by
  unfold ptrR at h
  split at h
  · simp only [Option.some.injEq, Prod.mk.injEq] at h
    cases o with
    | none => rfl
    | some b => simp [optD] at h
  · simp only [Option.some.injEq, Prod.mk.injEq] at h
    cases o with
    | none => simp [optD] at h
    | some b =>
      have h1 := h.1
      unfold optD at h1
      injection h1 with h1
      injection h1 with _ h1
      have : _ = b := Int.ofNat.inj h1
      subst this
      rfl
  · cases h

/-- Block b is a map of at most n entries, which answers f. -/
def MapP (w : World) (b n : Nat) (f : Nat → Option Nat) : Prop :=
  ∃ D : DataW Unit, w.ownsMap Try.prog 29 ptrR b n D ∧ IsMap D ∧ ∀ id, id < 18446744073709551616 → D.atKey (.int .u64 (id : Nat)) .nil = optD (f id)
theorem MapP.made (w : World) : MapP (w.alloc (.map #[] 0)) w.heap.size 0 (fun _ => none) := ⟨.map [], World.ownsMap_made _ _ _ _, ⟨_, rfl⟩, fun _ _ => rfl⟩
theorem MapP.block {w w' : World} {b n : Nat} {f : Nat → Option Nat} (h : MapP w b n f) (hb : w'.heap[b]? = w.heap[b]?) : MapP w' b n f := by
  obtain ⟨D, ⟨es, clock, h0, r⟩, h1⟩ := h
  exact ⟨D, ⟨es, clock, hb.trans h0, r⟩, h1⟩
theorem MapP.at_ {w : World} {b n : Nat} {f : Nat → Option Nat} (h : MapP w b n f) : ∃ es c, w.heap[b]? = some (.map es c) := by
  obtain ⟨D, ⟨es, clock, h0, r⟩, h1⟩ := h
  exact ⟨es, clock, h0⟩
theorem MapP.keepZ {w w' : World} {b n : Nat} {f : Nat → Option Nat} {T : Nat → Option TypeId → Prop} (h : MapP w b n f) (hk : KeepZ T w w') (hT : ¬ T b none) : MapP w' b n f := by
  obtain ⟨es, c, hb⟩ := h.at_
  exact h.block ((hk.blk hb hT).trans hb.symm)
theorem MapP.no {w w' : World} {b n : Nat} {f : Nat → Option Nat} (h : MapP w b n f) (hk : Keep No w w') : MapP w' b n f := h.keepZ (T := fun _ _ => False) (KeepZ.of hk) id
theorem run_lookP {w : World} {b n : Nat} {f : Nat → Option Nat} (h : MapP w b n f) (id : Nat) (hid : id < 18446744073709551616) : (Instr.lookup 69 (.map (some b)) (.int .u64 (id : Nat)) false).run Try.prog w = .ok (optP (f id)) w := by
  obtain ⟨D, h0, -, h2⟩ := h
  obtain ⟨v, ps, hr, hv⟩ := h0.lookup key29 Try.underlying69 (zero139 w) (zd := .nil) (zp := []) rfl (keyOf_int_mk Try.underlying29 (wf64 hid))
  rw [h2 id hid] at hv
  rw [hr, ptrR_inv hv]
theorem wpList_lookP (w : World) {ops : Array Oper} {rest : List Oper} {o : Oper} {a : Act} {Q : Exit → Act → World → Prop} (hg : o.guard = none) (m x : Operand) (hop : o.op = Op.lookup 69 m x false) (b n : Nat) (f : Nat → Option Nat)
    (hm : a.eval m = .map (some b)) (hown : MapP w b n f) (id : Nat) (hid : id < 18446744073709551616) (hx : a.eval x = .int .u64 (id : Nat)) (r : Option Nat) (hr : f id = r) (hK : wpList Try.prog ops Q rest (a.put o.dst (optP r)) w) : wpList Try.prog ops Q (o :: rest) a w := by
  refine wpList_plain hg fun K' hK' => ?_
  unfold Oper.wp
  simp [execOp, hop, hm, hx, run_lookP hown id hid, Result.andThen, hr]
  exact hK' _ _ hK
set_option maxRecDepth 100000 in
/-- A store into the map. -/
theorem run_keepP {w : World} {b n : Nat} {f : Nat → Option Nat} (hown : MapP w b n f) (hn : n < maxLen) (id t : Nat) (hid : id < 18446744073709551616) :
    ∃ w', (Instr.mapUpdate 69 (.map (some b)) (.int .u64 (id : Nat)) (.pointer (some ⟨t, 0, none⟩))).run Try.prog w = .ok () w' ∧ MapP w' b (n + 1) (fun j => if j = id then some t else f j) ∧ KeepZ (fun k s => k = b ∧ s = none) w w' := by
  have hat := hown.at_
  obtain ⟨D, h0, h1, h2⟩ := hown
  obtain ⟨w', hrun, hw', hgr⟩ := h0.update key29 Try.underlying69 hn (val := .pointer (some ⟨t, 0, none⟩)) (d := .lit (.int .u64 (t : Nat))) (ps := []) (keyOf_int_mk Try.underlying29 (wf64 hid)) rfl
  refine ⟨w', hrun, ⟨_, hw', ?_, fun j hj => ?_⟩, ?_⟩
  · obtain ⟨es, rfl⟩ := h1
    exact ⟨_, rfl⟩
  · show _ = optD (if j = id then some t else f j)
    by_cases e : j = id
    · rw [if_pos e]
      subst e
      exact atKey_put_same h1 (key29.key (keyOf_int_mk Try.underlying29 (wf64 hj))) _ _
    · rw [if_neg e, atKey_put_other (fun h => e (by injection h with _ h; omega))]
      exact h2 j hj
  · obtain ⟨es, c, hb⟩ := hat
    exact Keep.mono ((Keep.refl (fun k => k = b) w).grown hgr (fun k hk _ => by injection hk with hk; exact hk.symm)) (fun i _ hi => by obtain rfl : i = b := hi; exact ⟨_, hb, rfl, rfl⟩)

/-- A row of numbers that is one's own. -/
def R29 (w : World) (v : Value) (l : List Nat) : Prop := ∃ A k, v = .slice A l.length k ∧ w.ownsRow 0 29 1 (.slice A l.length k) l.length (l.map u64v)
theorem R29.n64 {w : World} {v : Value} {l : List Nat} (h : R29 w v l) : N64 w v l := by
  obtain ⟨A, k, rfl, ho⟩ := h
  exact Sl.of_own ho
theorem R29.keepZ {w w' : World} {v : Value} {l : List Nat} {T : Nat → Option TypeId → Prop} (h : R29 w v l) (hk : KeepZ T w w') (hT : ∀ k, ¬ T k (some 29)) : R29 w' v l := by
  obtain ⟨A, k, rfl, ho⟩ := h
  exact ⟨A, k, rfl, hk.row ho (fun i _ => hT i)⟩
theorem New64.r29 {w0 w : World} {v : Value} {l : List Nat} (h : New64 w0 w v l) : R29 w v l := by
  obtain ⟨A, k, rfl, ho, -⟩ := h
  exact ⟨A, k, rfl, ho⟩

/-- A row of numbers in none of the blocks of X. -/
def RX (X : Nat → Prop) (w : World) (v : Value) (l : List Nat) : Prop := R29 w v l ∧ ∀ k, v.ownBlock = some k → ¬ X k
theorem RX.keepZ {X : Nat → Prop} {w w' : World} {v : Value} {l : List Nat} {T : Nat → Option TypeId → Prop} (h : RX X w v l) (hk : KeepZ T w w') (hT : ∀ k, ¬ T k (some 29)) : RX X w' v l := ⟨h.1.keepZ hk hT, h.2⟩
theorem RX.nil (X : Nat → Prop) (w : World) : RX X w (.slice none 0 0) [] := ⟨⟨none, 0, rfl, World.ownsRow_nil _ _ _ _⟩, fun k hk => by simp [Value.ownBlock] at hk⟩
theorem New64.rx {X : Nat → Prop} {w0 w : World} {v : Value} {l : List Nat} (h : New64 w0 w v l) (hX : ∀ k, X k → k < w0.heap.size) : RX X w v l := by
  refine ⟨h.r29, fun k hk e => ?_⟩
  obtain ⟨A, kk, rfl, -, hb⟩ := h
  have h1 := hb k hk
  have h2 := hX k e
  omega

/-- A task of the program at block tb; all of it lies in [lo, hi). -/
def TAt (X : Nat → Prop) (w : World) (lo hi tb : Nat) (t : DTask) : Prop :=
  lo ≤ tb ∧ tb < hi ∧ ∃ A k W, w.heap[tb]? = some (.cells #[.slice A t.parts.length k, .bool t.write, W, .int .i64 (t.state : Nat)] 143 (0, 0)) ∧
    w.ownsRow 0 145 9 (.slice A t.parts.length k) t.parts.length (t.parts.flatMap dcells) ∧ (∀ b, (Value.slice A t.parts.length k).ownBlock = some b → lo ≤ b ∧ b < hi) ∧ RX X w W t.wants
theorem TAt.keepZ {X : Nat → Prop} {w w' : World} {lo hi tb : Nat} {t : DTask} {T : Nat → Option TypeId → Prop} (h : TAt X w lo hi tb t) (hk : KeepZ T w w') (hT : ∀ k, lo ≤ k → k < hi → ¬ T k (some 143) ∧ ¬ T k (some 145)) (h29 : ∀ k, ¬ T k (some 29)) : TAt X w' lo hi tb t := by
  obtain ⟨h1, h2, A, k, W, hb, ho, hi', hw⟩ := h
  exact ⟨h1, h2, A, k, W, hk.blk hb (hT tb h1 h2).1, hk.row ho (fun i hi => (hT i (hi' i hi).1 (hi' i hi).2).2), hi', hw.keepZ hk h29⟩

/-- What is true of a disk, by itself. -/
structure DOk (D : DD) : Prop where
  fit : dfit D.per D.blocks D.chunks.length = true
  b32 : D.blocks < 4294967296
  qb : QB D.q
  ids : ∀ x ∈ D.q, 1 ≤ x.1 ∧ x.1 ≤ D.ts.length
  few : D.ts.length < 4611686018427387904
/-- The program's disk at block g; all of it lies from block B on, the tasks below hi; the tasks' marks are lo, their blocks tb. -/
def DAt (X : Nat → Prop) (B hi : Nat) (w : World) (g : Nat) (D : DD) : Prop :=
  ∃ qb C M f, ∃ lo tb : Nat → Nat, w.heap[g]? = some (.cells #[.pointer (some ⟨qb, 0, none⟩), .int .u32 (D.per : Nat), .int .u32 (D.blocks : Nat), C, .map (some M), .int .u64 (D.ts.length : Nat)] 71 (0, 0)) ∧ B ≤ g ∧
    QAt B w qb D.most D.pat D.q ∧ 0 < D.most ∧ RX X w C D.chunks ∧ MapP w M D.ts.length f ∧ (B ≤ M ∧ ¬ X M) ∧ (∀ id, id = 0 ∨ D.ts.length < id → f id = none) ∧
    (∀ i (h : i < D.ts.length), f (i + 1) = some (tb i) ∧ TAt X w (lo i) (lo (i + 1)) (tb i) D.ts[i]) ∧ (∀ i, lo i ≤ lo (i + 1)) ∧ B ≤ lo 0 ∧ lo D.ts.length ≤ hi ∧ hi ≤ w.heap.size
/-- What the disk's calls may write. -/
def TP (X : Nat → Prop) (B : Nat) : Nat → Option TypeId → Prop := fun k s => B ≤ k ∧ ((s = none ∧ ¬ X k) ∨ s = some 71 ∨ s = some 116 ∨ s = some 160 ∨ s = some 143 ∨ s = some 145)
theorem DAt.keepZ {X : Nat → Prop} {B hi : Nat} {w w' : World} {g : Nat} {D : DD} {T : Nat → Option TypeId → Prop} (h : DAt X B hi w g D) (hk : KeepZ T w w') (hT : ∀ k, ¬ T k none ∧ ¬ T k (some 71) ∧ ¬ T k (some 116) ∧ ¬ T k (some 160) ∧ ¬ T k (some 143) ∧ ¬ T k (some 145) ∧ ¬ T k (some 29)) : DAt X B hi w' g D := by
  obtain ⟨qb, C, M, f, lo, tb, hb, hg, hq, h0, hc, hm, hM, hn, ht, hl, hB, hh, hs⟩ := h
  exact ⟨qb, C, M, f, lo, tb, hk.blk hb (hT g).2.1, hg, hq.keep hk (fun k => ⟨(hT k).2.2.1, (hT k).2.2.2.1⟩), h0, hc.keepZ hk (fun k => (hT k).2.2.2.2.2.2), hm.keepZ hk (hT M).1, hM, hn,
    fun i h => ⟨(ht i h).1, (ht i h).2.keepZ hk (fun k _ _ => ⟨(hT k).2.2.2.2.1, (hT k).2.2.2.2.2.1⟩) (fun k => (hT k).2.2.2.2.2.2)⟩, hl, hB, hh, Nat.le_trans hs hk.size⟩
theorem DAt.no {X : Nat → Prop} {B hi : Nat} {w w' : World} {g : Nat} {D : DD} (h : DAt X B hi w g D) (hk : Keep No w w') : DAt X B hi w' g D := h.keepZ (T := fun _ _ => False) (KeepZ.of hk) (fun _ => ⟨id, id, id, id, id, id, id⟩)
theorem DAt.up {X : Nat → Prop} {B hi hi' : Nat} {w : World} {g : Nat} {D : DD} (h : DAt X B hi w g D) (h1 : hi ≤ hi') (h2 : hi' ≤ w.heap.size) : DAt X B hi' w g D := by
  obtain ⟨qb, C, M, f, lo, tb, hb, hg, hq, h0, hc, hm, hM, hn, ht, hl, hB, hh, hs⟩ := h
  exact ⟨qb, C, M, f, lo, tb, hb, hg, hq, h0, hc, hm, hM, hn, ht, hl, hB, Nat.le_trans hh h1, h2⟩
end Go.Proofs.Ytimdaioojnohmaa
