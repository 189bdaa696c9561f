/-
  The program's disk in memory; its map of tasks.
  slices.ContainsFunc at a task's parts walked.
  A map of the call's own from numbers to slices of numbers: its values read as themselves.
-/
import Derived.Test.YtimdaioojnohmaaMDPlain
import Derived.Test.YtimdaioojnohmaaMQMap
namespace Go.Proofs.Ytimdaioojnohmaa
open Go.RowKit Go.Maps

theorem Try.info125 : (Try.prog.info? 125).map (fun i => (i.zero, i.size, i.bytes)) = some (some (.agg #[.int .u64 0, .int .i64 0, .int .u64 0, .int .u32 0, .int .u32 0, .bool false, .string ByteArray.empty]), 7, 56) := by kernel_rfl
theorem Try.info145 : (Try.prog.info? 145).map (fun i => (i.zero, i.size, i.bytes)) = some (some (.agg #[.int .u64 0, .int .i64 0, .int .u64 0, .int .u32 0, .int .u32 0, .bool false, .string ByteArray.empty, .bool false, .string ByteArray.empty]), 9, 80) := by kernel_rfl
theorem zero139 (w : World) : (zeroValue 139).run Try.prog w = .ok (.pointer none) w := by kernel_rfl

/-- How a pointer to a whole object reads: its block's number. -/
def ptrR : Value → Option (DataW Unit × List MemPlace)
  | .pointer none => some (.nil, [])
  | .pointer (some ⟨b, 0, none⟩) => some (.lit (.int .u64 (b : Nat)), [])
  | _ => none
def optD : Option Nat → DataW Unit
  | none => .nil
  | some b => .lit (.int .u64 (b : Nat))
def optP : Option Nat → Value
  | none => .pointer none
  | some b => .pointer (some ⟨b, 0, none⟩)
theorem ptrR_inv {v : Value} {o : Option Nat} {ps : List MemPlace} (h : ptrR v = some (optD o, ps)) : v = optP o := by
  unfold ptrR at h
  split at h
  · simp only [Option.some.injEq, Prod.mk.injEq] at h
    cases o with
    | none => rfl
    | some b => simp [optD] at h
  · simp only [Option.some.injEq, Prod.mk.injEq] at h
    cases o with
    | none => simp [optD] at h
    | some b =>
      have h1 := h.1
      unfold optD at h1
      injection h1 with h1
      injection h1 with _ h1
      have : _ = b := Int.ofNat.inj h1
      subst this
      rfl
  · cases h

/-- Block b is a map of at most n entries, which answers f. -/
def MapP (w : World) (b n : Nat) (f : Nat → Option Nat) : Prop :=
  ∃ D : DataW Unit, w.ownsMap Try.prog 29 ptrR b n D ∧ IsMap D ∧ ∀ id, id < 18446744073709551616 → D.atKey (.int .u64 (id : Nat)) .nil = optD (f id)
theorem MapP.made (w : World) : MapP (w.alloc (.map #[] 0)) w.heap.size 0 (fun _ => none) := ⟨.map [], World.ownsMap_made _ _ _ _, ⟨_, rfl⟩, fun _ _ => rfl⟩
theorem MapP.block {w w' : World} {b n : Nat} {f : Nat → Option Nat} (h : MapP w b n f) (hb : w'.heap[b]? = w.heap[b]?) : MapP w' b n f := by
  obtain ⟨D, ⟨es, clock, h0, r⟩, h1⟩ := h
  exact ⟨D, ⟨es, clock, hb.trans h0, r⟩, h1⟩
theorem MapP.at_ {w : World} {b n : Nat} {f : Nat → Option Nat} (h : MapP w b n f) : ∃ es c, w.heap[b]? = some (.map es c) := by
  obtain ⟨D, ⟨es, clock, h0, r⟩, h1⟩ := h
  exact ⟨es, clock, h0⟩
theorem MapP.keepZ {w w' : World} {b n : Nat} {f : Nat → Option Nat} {T : Nat → Option TypeId → Prop} (h : MapP w b n f) (hk : KeepZ T w w') (hT : ¬ T b none) : MapP w' b n f := by
  obtain ⟨es, c, hb⟩ := h.at_
  exact h.block ((hk.blk hb hT).trans hb.symm)
theorem MapP.no {w w' : World} {b n : Nat} {f : Nat → Option Nat} (h : MapP w b n f) (hk : Keep No w w') : MapP w' b n f := h.keepZ (T := fun _ _ => False) (KeepZ.of hk) id
theorem run_lookP {w : World} {b n : Nat} {f : Nat → Option Nat} (h : MapP w b n f) (id : Nat) (hid : id < 18446744073709551616) : (Instr.lookup 69 (.map (some b)) (.int .u64 (id : Nat)) false).run Try.prog w = .ok (optP (f id)) w := by
  obtain ⟨D, h0, -, h2⟩ := h
  obtain ⟨v, ps, hr, hv⟩ := h0.lookup key29 Try.underlying69 (zero139 w) (zd := .nil) (zp := []) rfl (keyOf_int_mk Try.underlying29 (wf64 hid))
  rw [h2 id hid] at hv
  rw [hr, ptrR_inv hv]
theorem wpList_lookP (w : World) {ops : Array Oper} {rest : List Oper} {o : Oper} {a : Act} {Q : Exit → Act → World → Prop} (hg : o.guard = none) (m x : Operand) (hop : o.op = Op.lookup 69 m x false) (b n : Nat) (f : Nat → Option Nat)
    (hm : a.eval m = .map (some b)) (hown : MapP w b n f) (id : Nat) (hid : id < 18446744073709551616) (hx : a.eval x = .int .u64 (id : Nat)) (r : Option Nat) (hr : f id = r) (hK : wpList Try.prog ops Q rest (a.put o.dst (optP r)) w) : wpList Try.prog ops Q (o :: rest) a w := by
  refine wpList_plain hg fun K' hK' => ?_
  unfold Oper.wp
  simp [execOp, hop, hm, hx, run_lookP hown id hid, Result.andThen, hr]
  exact hK' _ _ hK
set_option maxRecDepth 100000 in
/-- A store into the map. -/
theorem run_keepP {w : World} {b n : Nat} {f : Nat → Option Nat} (hown : MapP w b n f) (hn : n < maxLen) (id t : Nat) (hid : id < 18446744073709551616) :
    ∃ w', (Instr.mapUpdate 69 (.map (some b)) (.int .u64 (id : Nat)) (.pointer (some ⟨t, 0, none⟩))).run Try.prog w = .ok () w' ∧ MapP w' b (n + 1) (fun j => if j = id then some t else f j) ∧ KeepZ (fun k s => k = b ∧ s = none) w w' := by
  have hat := hown.at_
  obtain ⟨D, h0, h1, h2⟩ := hown
  obtain ⟨w', hrun, hw', hgr⟩ := h0.update key29 Try.underlying69 hn (val := .pointer (some ⟨t, 0, none⟩)) (d := .lit (.int .u64 (t : Nat))) (ps := []) (keyOf_int_mk Try.underlying29 (wf64 hid)) rfl
  refine ⟨w', hrun, ⟨_, hw', ?_, fun j hj => ?_⟩, ?_⟩
  · obtain ⟨es, rfl⟩ := h1
    exact ⟨_, rfl⟩
  · show _ = optD (if j = id then some t else f j)
    by_cases e : j = id
    · rw [if_pos e]
      subst e
      exact atKey_put_same h1 (key29.key (keyOf_int_mk Try.underlying29 (wf64 hj))) _ _
    · rw [if_neg e, atKey_put_other (fun h => e (by injection h with _ h; omega))]
      exact h2 j hj
  · obtain ⟨es, c, hb⟩ := hat
    exact Keep.mono ((Keep.refl (fun k => k = b) w).grown hgr (fun k hk _ => by injection hk with hk; exact hk.symm)) (fun i _ hi => by obtain rfl : i = b := hi; exact ⟨_, hb, rfl, rfl⟩)

/-- A row of numbers that is one's own. -/
def R29 (w : World) (v : Value) (l : List Nat) : Prop := ∃ A k, v = .slice A l.length k ∧ w.ownsRow 0 29 1 (.slice A l.length k) l.length (l.map u64v)
theorem R29.n64 {w : World} {v : Value} {l : List Nat} (h : R29 w v l) : N64 w v l := by
  obtain ⟨A, k, rfl, ho⟩ := h
  exact Sl.of_own ho
theorem R29.keepZ {w w' : World} {v : Value} {l : List Nat} {T : Nat → Option TypeId → Prop} (h : R29 w v l) (hk : KeepZ T w w') (hT : ∀ k, ¬ T k (some 29)) : R29 w' v l := by
  obtain ⟨A, k, rfl, ho⟩ := h
  exact ⟨A, k, rfl, hk.row ho (fun i _ => hT i)⟩
theorem New64.r29 {w0 w : World} {v : Value} {l : List Nat} (h : New64 w0 w v l) : R29 w v l := by
  obtain ⟨A, k, rfl, ho, -⟩ := h
  exact ⟨A, k, rfl, ho⟩

/-- A row of numbers in none of the blocks of X. -/
def RX (X : Nat → Prop) (w : World) (v : Value) (l : List Nat) : Prop := R29 w v l ∧ ∀ k, v.ownBlock = some k → ¬ X k
theorem RX.keepZ {X : Nat → Prop} {w w' : World} {v : Value} {l : List Nat} {T : Nat → Option TypeId → Prop} (h : RX X w v l) (hk : KeepZ T w w') (hT : ∀ k, ¬ T k (some 29)) : RX X w' v l := ⟨h.1.keepZ hk hT, h.2⟩
theorem RX.nil (X : Nat → Prop) (w : World) : RX X w (.slice none 0 0) [] := ⟨⟨none, 0, rfl, World.ownsRow_nil _ _ _ _⟩, fun k hk => by simp [Value.ownBlock] at hk⟩
theorem New64.rx {X : Nat → Prop} {w0 w : World} {v : Value} {l : List Nat} (h : New64 w0 w v l) (hX : ∀ k, X k → k < w0.heap.size) : RX X w v l := by
  refine ⟨h.r29, fun k hk e => ?_⟩
  obtain ⟨A, kk, rfl, -, hb⟩ := h
  have h1 := hb k hk
  have h2 := hX k e
  omega

/-- A task of the program at block tb; all of it lies in [lo, hi). -/
def TAt (X : Nat → Prop) (w : World) (lo hi tb : Nat) (t : DTask) : Prop :=
  lo ≤ tb ∧ tb < hi ∧ ∃ A k W, w.heap[tb]? = some (.cells #[.slice A t.parts.length k, .bool t.write, W, .int .i64 (t.state : Nat)] 143 (0, 0)) ∧
    w.ownsRow 0 145 9 (.slice A t.parts.length k) t.parts.length (t.parts.flatMap dcells) ∧ (∀ b, (Value.slice A t.parts.length k).ownBlock = some b → lo ≤ b ∧ b < hi) ∧ RX X w W t.wants
theorem TAt.keepZ {X : Nat → Prop} {w w' : World} {lo hi tb : Nat} {t : DTask} {T : Nat → Option TypeId → Prop} (h : TAt X w lo hi tb t) (hk : KeepZ T w w') (hT : ∀ k, lo ≤ k → k < hi → ¬ T k (some 143) ∧ ¬ T k (some 145)) (h29 : ∀ k, ¬ T k (some 29)) : TAt X w' lo hi tb t := by
  obtain ⟨h1, h2, A, k, W, hb, ho, hi', hw⟩ := h
  exact ⟨h1, h2, A, k, W, hk.blk hb (hT tb h1 h2).1, hk.row ho (fun i hi => (hT i (hi' i hi).1 (hi' i hi).2).2), hi', hw.keepZ hk h29⟩

/-- What is true of a disk, by itself. -/
structure DOk (D : DD) : Prop where
  fit : dfit D.per D.blocks D.chunks.length = true
  b32 : D.blocks < 4294967296
  qb : QB D.q
  ids : ∀ x ∈ D.q, 1 ≤ x.1 ∧ x.1 ≤ D.ts.length
  few : D.ts.length < 4611686018427387904
/-- The program's disk at block g; all of it lies from block B on, the tasks below hi; the tasks' marks are lo, their blocks tb. -/
def DAt (X : Nat → Prop) (B hi : Nat) (w : World) (g : Nat) (D : DD) : Prop :=
  ∃ qb C M f, ∃ lo tb : Nat → Nat, w.heap[g]? = some (.cells #[.pointer (some ⟨qb, 0, none⟩), .int .u32 (D.per : Nat), .int .u32 (D.blocks : Nat), C, .map (some M), .int .u64 (D.ts.length : Nat)] 71 (0, 0)) ∧ B ≤ g ∧
    QAt B w qb D.most D.pat D.q ∧ 0 < D.most ∧ RX X w C D.chunks ∧ MapP w M D.ts.length f ∧ (B ≤ M ∧ ¬ X M) ∧ (∀ id, id = 0 ∨ D.ts.length < id → f id = none) ∧
    (∀ i (h : i < D.ts.length), f (i + 1) = some (tb i) ∧ TAt X w (lo i) (lo (i + 1)) (tb i) D.ts[i]) ∧ (∀ i, lo i ≤ lo (i + 1)) ∧ B ≤ lo 0 ∧ lo D.ts.length ≤ hi ∧ hi ≤ w.heap.size
/-- What the disk's calls may write. -/
def TP (X : Nat → Prop) (B : Nat) : Nat → Option TypeId → Prop := fun k s => B ≤ k ∧ ((s = none ∧ ¬ X k) ∨ s = some 71 ∨ s = some 116 ∨ s = some 160 ∨ s = some 143 ∨ s = some 145)
theorem DAt.keepZ {X : Nat → Prop} {B hi : Nat} {w w' : World} {g : Nat} {D : DD} {T : Nat → Option TypeId → Prop} (h : DAt X B hi w g D) (hk : KeepZ T w w') (hT : ∀ k, ¬ T k none ∧ ¬ T k (some 71) ∧ ¬ T k (some 116) ∧ ¬ T k (some 160) ∧ ¬ T k (some 143) ∧ ¬ T k (some 145) ∧ ¬ T k (some 29)) : DAt X B hi w' g D := by
  obtain ⟨qb, C, M, f, lo, tb, hb, hg, hq, h0, hc, hm, hM, hn, ht, hl, hB, hh, hs⟩ := h
  exact ⟨qb, C, M, f, lo, tb, hk.blk hb (hT g).2.1, hg, hq.keep hk (fun k => ⟨(hT k).2.2.1, (hT k).2.2.2.1⟩), h0, hc.keepZ hk (fun k => (hT k).2.2.2.2.2.2), hm.keepZ hk (hT M).1, hM, hn,
    fun i h => ⟨(ht i h).1, (ht i h).2.keepZ hk (fun k _ _ => ⟨(hT k).2.2.2.2.1, (hT k).2.2.2.2.2.1⟩) (fun k => (hT k).2.2.2.2.2.2)⟩, hl, hB, hh, Nat.le_trans hs hk.size⟩
theorem DAt.no {X : Nat → Prop} {B hi : Nat} {w w' : World} {g : Nat} {D : DD} (h : DAt X B hi w g D) (hk : Keep No w w') : DAt X B hi w' g D := h.keepZ (T := fun _ _ => False) (KeepZ.of hk) (fun _ => ⟨id, id, id, id, id, id, id⟩)
theorem DAt.up {X : Nat → Prop} {B hi hi' : Nat} {w : World} {g : Nat} {D : DD} (h : DAt X B hi w g D) (h1 : hi ≤ hi') (h2 : hi' ≤ w.heap.size) : DAt X B hi' w g D := by
  obtain ⟨qb, C, M, f, lo, tb, hb, hg, hq, h0, hc, hm, hM, hn, ht, hl, hB, hh, hs⟩ := h
  exact ⟨qb, C, M, f, lo, tb, hb, hg, hq, h0, hc, hm, hM, hn, ht, hl, hB, Nat.le_trans hh h1, h2⟩
end Go.Proofs.Ytimdaioojnohmaa

namespace Go.Proofs.Ytimdaioojnohmaa
open Go.RowKit

theorem untold_any (p : DPart) (w : World) : Calls Try.prog 76 #[.agg #[.int .u64 (p.task : Nat), .int .i64 (p.ix : Nat), .int .u64 (p.chunk : Nat), .int .u32 (p.frm : Nat), .int .u32 (p.cnt : Nat), .bool p.write, .string p.data, .bool p.told, .string p.got]] w fun e w' => e = .returned (.bool (!p.told)) ∧ Keep No w w' := by
  go_enter Try.func76, Try.ntmps76
  go_wp2_with fail
  go_ret
  exact ⟨rfl, (Keep.refl _ _).alloc _⟩
/-- Parts in memory. -/
def D145 (w : World) (v : Value) (l : List DPart) : Prop := Sl w v l.length (l.flatMap dcells)
theorem D145.at_ {w : World} {v : Value} {l : List DPart} (h : D145 w v l) (i : Nat) (hi : i < l.length) : ∃ b o c, v = .slice (some ⟨b, o, none⟩) l.length c ∧ l.length ≤ c ∧
    w.cell? ⟨b, o + i * 9, none⟩ = some (.int .u64 (l[i].task : Nat)) ∧ w.cell? ⟨b, o + i * 9 + 1, none⟩ = some (.int .i64 (l[i].ix : Nat)) ∧ w.cell? ⟨b, o + i * 9 + 2, none⟩ = some (.int .u64 (l[i].chunk : Nat)) ∧
    w.cell? ⟨b, o + i * 9 + 3, none⟩ = some (.int .u32 (l[i].frm : Nat)) ∧ w.cell? ⟨b, o + i * 9 + 4, none⟩ = some (.int .u32 (l[i].cnt : Nat)) ∧ w.cell? ⟨b, o + i * 9 + 5, none⟩ = some (.bool l[i].write) ∧
    w.cell? ⟨b, o + i * 9 + 6, none⟩ = some (.string l[i].data) ∧ w.cell? ⟨b, o + i * 9 + 7, none⟩ = some (.bool l[i].told) ∧ w.cell? ⟨b, o + i * 9 + 8, none⟩ = some (.string l[i].got) := by
  obtain ⟨b, o, c, rfl, hc, hx⟩ := Sl.some h (by omega)
  have g := fun j (hj : j < 9) => flat_get dcells 9 dcells_len l i j hi hj
  exact ⟨b, o, c, rfl, hc, hx _ _ ((g 0 (by decide)).trans rfl), hx _ _ ((g 1 (by decide)).trans rfl), hx _ _ ((g 2 (by decide)).trans rfl), hx _ _ ((g 3 (by decide)).trans rfl), hx _ _ ((g 4 (by decide)).trans rfl),
    hx _ _ ((g 5 (by decide)).trans rfl), hx _ _ ((g 6 (by decide)).trans rfl), hx _ _ ((g 7 (by decide)).trans rfl), hx _ _ ((g 8 (by decide)).trans rfl)⟩
theorem D145.keep {w w' : World} {v : Value} {l : List DPart} (h : D145 w v l) (hk : Keep No w w') : D145 w' v l := Sl.keep h hk (fun _ _ h => h)
set_option maxRecDepth 100000 in
theorem indexp_any (v : Value) (l : List DPart) (w : World) (h : D145 w v l) (hl : l.length ≤ 1048576) : Calls Try.prog 94 #[v, .func (.func 76) #[] #[]] w fun e w' =>
    (∃ r : Int, e = .returned (.int .i64 r) ∧ (0 ≤ r ↔ l.any (fun p => !p.told) = true)) ∧ Keep No w w' := by
  obtain ⟨A, c, rfl, -⟩ := Sl.shape h
  have H := Lib.hid h
  clear h
  go_enter Try.func94, Try.ntmps94
  go_wp2_with fail
  go_loopw [8] (fun iv wr => ∃ i, i ≤ l.length ∧ iv = .int .i64 (i : Nat) ∧ Hid ((l.take i).any (fun p => !p.told) = false) ∧ Keep No w wr) (fun iv _ => l.length - (intOf iv).toNat)
  case atStart => exact ⟨0, Nat.zero_le _, rfl, rfl, Keep.refl _ _⟩
  case round =>
    obtain ⟨i, hi, rfl, hno, hk⟩ := hrel
    by_cases hlt : i < l.length
    · obtain ⟨b, o, c', hv, hc', x0, x1, x2, x3, x4, x5, x6, x7, x8⟩ := (H.out.keep hk).at_ i hlt
      injection hv with hA _ hcc
      subst hA hcc
      have HC := Lib.hid (untold_any l[i] wr)
      have hmiss : l[i].told = true → Hid ((l.take (i + 1)).any (fun p => !p.told) = false) := fun e => by
        show _ = _
        rw [List.take_succ_eq_append_getElem hlt, List.any_append, hno.out]
        simp [e]
      have hhit : l[i].told = false → Hid (l.any (fun p => !p.told) = true) := fun e => by
        show _ = _
        exact List.any_eq_true.2 ⟨l[i], List.getElem_mem hlt, by simp [e]⟩
      generalize l[i] = p at *
      obtain ⟨q0, q1, q2, q3, q4, q5, q6, q7, q8⟩ := p
      simp only at x0 x1 x2 x3 x4 x5 x6 x7 x8 HC hmiss hhit
      cases q7
      · have HE := hhit rfl
        clear hhit hmiss
        go_wp2_with fail
        refine HC.out.mono ?_
        rintro e w2 ⟨rfl, k2⟩
        go_wp2_with fail
        go_ret
        exact ⟨⟨i, rfl, by simp [HE.out]⟩, hk.trans k2⟩
      · have HE := hmiss rfl
        clear hhit hmiss
        go_wp2_with fail
        refine HC.out.mono ?_
        rintro e w2 ⟨rfl, k2⟩
        go_wp2_with fail
        exact ⟨⟨i + 1, by omega, by simp, HE, hk.trans k2⟩, by simp [intOf]; omega⟩
    · go_wp2_with fail
      go_ret
      refine ⟨⟨-1, rfl, ?_⟩, hk⟩
      have := hno.out
      rw [List.take_of_length_le (by omega)] at this
      simp [this]
theorem containsp_any (v : Value) (l : List DPart) (w : World) (h : D145 w v l) (hl : l.length ≤ 1048576) : Calls Try.prog 75 #[v, .func (.func 76) #[] #[]] w fun e w' =>
    e = .returned (.bool (l.any (fun p => !p.told))) ∧ Keep No w w' := by
  have hc := indexp_any v l w h hl
  clear h
  go_enter Try.func75, Try.ntmps75
  go_wp2_with fail
  refine hc.mono ?_
  rintro e w' ⟨⟨r, rfl, hr⟩, hk⟩
  have HR := Lib.hid hr
  clear hr
  go_wp2_with fail
  go_ret
  refine ⟨ret_bool ?_, hk⟩
  rw [Bool.eq_iff_iff, decide_eq_true_eq]
  exact HR.out
end Go.Proofs.Ytimdaioojnohmaa

namespace Go.Proofs.Ytimdaioojnohmaa
open Go.RowKit Go.Maps

def heldR : Value → Option (DataW Value × List MemPlace) := fun v => some (.held v, [])
theorem zero41 (w : World) : (zeroValue 41).run Try.prog w = .ok (.slice none 0 0) w := by kernel_rfl
/-- Block b is a map of at most n entries, which answers f. -/
def MapV (w : World) (b n : Nat) (f : Nat → Value) : Prop :=
  ∃ D : DataW Value, w.ownsMap Try.prog 29 heldR b n D ∧ IsMap D ∧ ∀ id, id < 18446744073709551616 → D.atKey (.int .u64 (id : Nat)) (.held (.slice none 0 0)) = .held (f id)
theorem MapV.made (w : World) : MapV (w.alloc (.map #[] 0)) w.heap.size 0 (fun _ => .slice none 0 0) := ⟨.map [], World.ownsMap_made _ _ _ _, ⟨_, rfl⟩, fun _ _ => rfl⟩
theorem MapV.block {w w' : World} {b n : Nat} {f : Nat → Value} (h : MapV w b n f) (hb : w'.heap[b]? = w.heap[b]?) : MapV w' b n f := by
  obtain ⟨D, ⟨es, clock, h0, r⟩, h1⟩ := h
  exact ⟨D, ⟨es, clock, hb.trans h0, r⟩, h1⟩
theorem MapV.at_ {w : World} {b n : Nat} {f : Nat → Value} (h : MapV w b n f) : ∃ es c, w.heap[b]? = some (.map es c) := by
  obtain ⟨D, ⟨es, clock, h0, r⟩, h1⟩ := h
  exact ⟨es, clock, h0⟩
theorem MapV.keep {S : Nat → Prop} {w w' : World} {b n : Nat} {f : Nat → Value} (h : MapV w b n f) (hk : Keep S w w') (hS : ¬ S b) : MapV w' b n f := by
  obtain ⟨es, c, hb⟩ := h.at_
  exact h.block ((hk.blk hb hS).trans hb.symm)
theorem MapV.more {w : World} {b n m : Nat} {f : Nat → Value} (h : MapV w b n f) (hm : n ≤ m) : MapV w b m f := by
  obtain ⟨D, h1, h2, h3⟩ := h
  exact ⟨D, h1.mono hm, h2, h3⟩
theorem run_lookV {w : World} {b n : Nat} {f : Nat → Value} (h : MapV w b n f) (id : Nat) (hid : id < 18446744073709551616) : (Instr.lookup 120 (.map (some b)) (.int .u64 (id : Nat)) false).run Try.prog w = .ok (f id) w := by
  obtain ⟨D, h0, -, h2⟩ := h
  obtain ⟨v, ps, hr, hv⟩ := h0.lookup key29 Try.underlying120 (zero41 w) (zd := .held (.slice none 0 0)) (zp := []) rfl (keyOf_int_mk Try.underlying29 (wf64 hid))
  rw [h2 id hid] at hv
  rw [hr]
  unfold heldR at hv
  simp only [Option.some.injEq, Prod.mk.injEq, DataW.held.injEq] at hv
  rw [hv.1]
theorem wpList_lookV (w : World) {ops : Array Oper} {rest : List Oper} {o : Oper} {a : Act} {Q : Exit → Act → World → Prop} (hg : o.guard = none) (m x : Operand) (hop : o.op = Op.lookup 120 m x false) (b n : Nat) (f : Nat → Value)
    (hm : a.eval m = .map (some b)) (hown : MapV w b n f) (id : Nat) (hid : id < 18446744073709551616) (hx : a.eval x = .int .u64 (id : Nat)) (r : Value) (hr : f id = r) (hK : wpList Try.prog ops Q rest (a.put o.dst r) w) : wpList Try.prog ops Q (o :: rest) a w := by
  refine wpList_plain hg fun K' hK' => ?_
  unfold Oper.wp
  simp [execOp, hop, hm, hx, run_lookV hown id hid, Result.andThen, hr]
  exact hK' _ _ hK
theorem wpList_keepV (w : World) {ops : Array Oper} {rest : List Oper} {o : Oper} {a : Act} {Q : Exit → Act → World → Prop} (hg : o.guard = none) (m x v : Operand) (hop : o.op = Op.mapUpdate 120 m x v) (b n : Nat) (f : Nat → Value)
    (hm : a.eval m = .map (some b)) (hown : MapV w b n f) (hn : n < maxLen) (id : Nat) (t : Value) (hid : id < 18446744073709551616) (hx : a.eval x = .int .u64 (id : Nat)) (hv : a.eval v = t)
    (hK : ∀ w', MapV w' b (n + 1) (fun j => if j = id then t else f j) → Keep (fun k => k = b) w w' → wpList Try.prog ops Q rest (a.put o.dst undef) w') : wpList Try.prog ops Q (o :: rest) a w := by
  obtain ⟨D, h0, h1, h2⟩ := hown
  refine wpList_mapUpdate_own w hg m x v 120 hop 29 41 key29 Try.underlying120 heldR b n D hm h0 hn _ _ _ hx hv (keyOf_int_mk Try.underlying29 (wf64 hid)) (.held t) [] rfl ?_
  intro w' hw' hgr
  refine hK w' ⟨_, hw', ?_, fun j hj => ?_⟩ ((Keep.refl (fun k => k = b) w).grown hgr (fun k hk _ => by injection hk with hk; exact hk.symm))
  · obtain ⟨es, rfl⟩ := h1
    exact ⟨_, rfl⟩
  · show _ = DataW.held (if j = id then t else f j)
    by_cases e : j = id
    · rw [if_pos e]
      subst e
      exact atKey_put_same h1 (key29.key (keyOf_int_mk Try.underlying29 (wf64 hj))) _ _
    · rw [if_neg e, atKey_put_other (fun h => e (by injection h with _ h; omega))]
      exact h2 j hj
end Go.Proofs.Ytimdaioojnohmaa
