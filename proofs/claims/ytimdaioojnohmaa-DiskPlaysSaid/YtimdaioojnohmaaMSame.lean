/-
  The laws' same 24: asks of both kinds, which tell the same.
  The document's disk: Write 62, Read 63.
  The program's disk and the document's, side by side.
-/
import Derived.Test.YtimdaioojnohmaaMRState
import Derived.Test.YtimdaioojnohmaaMRBegin
import Derived.Test.YtimdaioojnohmaaMDWrite
import Derived.Test.YtimdaioojnohmaaMRNew
import Derived.Deep.QuietTactic
import Derived.BigQuiet
namespace Go.Proofs.Ytimdaioojnohmaa
open Go.RowKit Go.Maps
/-- Asks in memory, whatever their type. -/
def NAsk (w : World) (v : Value) (l : List DPart) : Prop := Sl w v l.length (l.flatMap acells)
theorem NAsk.at_ {w : World} {v : Value} {l : List DPart} (h : NAsk w v l) (k : Nat) (hk : k < l.length) : ∃ b o c, v = .slice (some ⟨b, o, none⟩) l.length c ∧ l.length ≤ c ∧
    w.cell? ⟨b, o + k * 7, none⟩ = some (.int .u64 (l[k].task : Nat)) ∧ w.cell? ⟨b, o + k * 7 + 1, none⟩ = some (.int .i64 (l[k].ix : Nat)) ∧ w.cell? ⟨b, o + k * 7 + 2, none⟩ = some (.int .u64 (l[k].chunk : Nat)) ∧
    w.cell? ⟨b, o + k * 7 + 3, none⟩ = some (.int .u32 (l[k].frm : Nat)) ∧ w.cell? ⟨b, o + k * 7 + 4, none⟩ = some (.int .u32 (l[k].cnt : Nat)) ∧ w.cell? ⟨b, o + k * 7 + 5, none⟩ = some (.bool l[k].write) ∧ w.cell? ⟨b, o + k * 7 + 6, none⟩ = some (.string l[k].data) := by
  obtain ⟨b, o, c, hv, hc, hcell⟩ := Sl.some h (by omega)
  have key : ∀ j u, j < 7 → (acells l[k])[j]? = some u → w.cell? ⟨b, o + (k * 7 + j), none⟩ = some u := fun j u hj hu => hcell _ _ (by rw [flat_get acells 7 acells_len l k j hk hj]; exact hu)
  simp only [← Nat.add_assoc] at key
  exact ⟨b, o, c, hv, hc, key 0 _ (by omega) rfl, key 1 _ (by omega) rfl, key 2 _ (by omega) rfl, key 3 _ (by omega) rfl, key 4 _ (by omega) rfl, key 5 _ (by omega) rfl, key 6 _ (by omega) rfl⟩
theorem A125.ask {w0 w : World} {v : Value} {l : List DPart} (h : A125 w0 w v l) : NAsk w v l := by
  obtain ⟨A, k, rfl, ho, -⟩ := h
  exact Sl.of_own ho
theorem NAsk.no {w w' : World} {v : Value} {l : List DPart} (h : NAsk w v l) (hk : Keep No w w') : NAsk w' v l := Sl.keep h hk (fun _ _ h => h)
set_option maxRecDepth 100000 in
set_option maxHeartbeats 1000000 in
theorem same_any (va vb : Value) (l : List DPart) (w : World) (ha : NAsk w va l) (hb : NAsk w vb l) (hl : l.length ≤ 1073741824) :
    Calls Try.prog 24 #[va, vb] w fun e w' => e = .returned (.bool true) ∧ Keep No w w' := by
  obtain ⟨Aa, ka, rfl, -⟩ := Sl.shape ha
  obtain ⟨Ab, kb, rfl, -⟩ := Sl.shape hb
  have HA := Lib.hid ha
  have HB := Lib.hid hb
  clear ha hb
  go_enter Try.func24, Try.ntmps24
  go_wp2_with fail
  go_loopw [14] (fun iv wr => ∃ i, i ≤ l.length ∧ iv = .int .i64 (i : Nat) ∧ Hid (Keep No w wr)) (fun iv _ => l.length - (intOf iv).toNat)
  case atStart => exact ⟨0, Nat.zero_le _, rfl, Keep.refl _ _⟩
  case round =>
    obtain ⟨i, hi, rfl, hk⟩ := hrel
    by_cases hlt : i < l.length
    · obtain ⟨ba, oa, ca, hva, hca, x0, x1, x2, x3, x4, x5, x6⟩ := (HA.out.no hk.out).at_ i hlt
      obtain ⟨bb, ob, cb, hvb, hcb, y0, y1, y2, y3, y4, y5, y6⟩ := (HB.out.no hk.out).at_ i hlt
      injection hva with e1 e2 e3
      injection hvb with e4 e5 e6
      clear e2 e5
      subst e1 e3 e4 e6
      generalize l[i] = p at *
      obtain ⟨q0, q1, q2, q3, q4, q5, q6, q7, q8⟩ := p
      simp only at x0 x1 x2 x3 x4 x5 x6 y0 y1 y2 y3 y4 y5 y6
      obtain ⟨W1, hW1⟩ : ∃ W1, W1 = wr.alloc (.cells #[.int .u64 (q0 : Nat), .int .i64 (q1 : Nat), .int .u64 (q2 : Nat), .int .u32 (q3 : Nat), .int .u32 (q4 : Nat), .bool q5, .string q6] 125) := ⟨_, rfl⟩
      have k1 : Keep No wr W1 := by rw [hW1]; exact (Keep.refl _ _).alloc _
      have hb1 : W1.heap[wr.heap.size]? = some (.cells #[.int .u64 (q0 : Nat), .int .i64 (q1 : Nat), .int .u64 (q2 : Nat), .int .u32 (q3 : Nat), .int .u32 (q4 : Nat), .bool q5, .string q6] 125 (0, 0)) := by rw [hW1]; exact blk_at _ _ rfl
      have HW1 := Lib.hid hW1
      clear hW1
      go_upto_region 6 with fail
      rw [← HW1.out]
      have z0 := (blk_cell hb1 0).trans rfl
      have z1 := (blk_cell hb1 1).trans rfl
      have z2 := (blk_cell hb1 2).trans rfl
      have z3 := (blk_cell hb1 3).trans rfl
      have z4 := (blk_cell hb1 4).trans rfl
      have z5 := (blk_cell hb1 5).trans rfl
      have z6 := (blk_cell hb1 6).trans rfl
      have y0 := k1.cellSome y0 (fun h => h)
      have y1 := k1.cellSome y1 (fun h => h)
      have y2 := k1.cellSome y2 (fun h => h)
      have y3 := k1.cellSome y3 (fun h => h)
      have y4 := k1.cellSome y4 (fun h => h)
      have y5 := k1.cellSome y5 (fun h => h)
      have y6 := k1.cellSome y6 (fun h => h)
      have kk := hk.out.trans k1
      have KK := Lib.hid kk
      clear hb1 k1 kk x0 x1 x2 x3 x4 x5 x6 hk
      generalize wr.heap.size = zb at *
      go_big_quiet (fail)
      go_wp2_with fail
      exact ⟨⟨i + 1, by omega, by simp, KK.out.trans ((Keep.refl _ _).drewN _)⟩, by simp [intOf]; omega⟩
    · obtain rfl : i = l.length := by omega
      go_wp2_with fail
      go_ret
      exact ⟨rfl, hk.out⟩
end Go.Proofs.Ytimdaioojnohmaa

namespace Go.Proofs.Ytimdaioojnohmaa
open Go.RowKit Go.Maps
section
variable {X : Nat → Prop} {B hi : Nat} {w w' : World} {g qb : Nat} {D : DD} {C T : Value} {vs : Nat → RV} {lo : Nat → Nat}
theorem rread_any (a c now : Nat) (h : RD X B hi w g D qb C T vs lo) (few : D.ts.length ≤ 1048575) (hfit : dfit D.per D.blocks D.chunks.length = true) (hb32 : D.blocks < 4294967296) (ha : a < 4294967296) (hc : c < 4294967296) :
    Calls Try.prog 63 #[.pointer (some ⟨g, 0, none⟩), .int .u32 (a : Nat), .int .u32 (c : Nat), .int .u64 (now : Nat)] w fun e w' => ∃ v, e = .returned (.tuple #[.int .u64 ((dread D a c now).1 : Nat), v, .int .i64 ((dread D a c now).2.2.1 : Nat)]) ∧
      N137 w' v (dread D a c now).2.1 ∧ (∃ T' vs' lo', RD X B w'.heap.size w' g (dread D a c now).2.2.2 qb C T' vs' lo') ∧ KeepZ (TD X B) w w' := by
  have HB := Lib.hid (rbegin_any a c now false ByteArray.empty h few hfit hb32 ha hc (fun e => by cases e))
  have w1 := IntWalk.u64_in (a : Int) (by omega)
  have w2 := IntWalk.u64_in (c : Int) (by omega)
  unfold dread
  generalize dbegin D a c false ByteArray.empty now = res at *
  clear h hfit few
  go_enter Try.func63, Try.ntmps63
  go_wp2_with fail
  refine HB.out.mono ?_
  rintro e w2 ⟨v, rfl, hv, hr, hk⟩
  have HV := Lib.hid hv
  have HR := Lib.hid hr
  clear hv hr
  go_wp2_with fail
  refine bodyPost_ret (results_tmp3 rfl _ _ _) rfl ?_
  exact ⟨_, rfl, HV.out, HR.out, hk⟩
set_option maxRecDepth 100000 in
theorem rwrite_any (a now : Nat) (data : ByteArray) (h : RD X B hi w g D qb C T vs lo) (few : D.ts.length ≤ 1048575) (hfit : dfit D.per D.blocks D.chunks.length = true) (hb32 : D.blocks < 4294967296) (ha : a < 4294967296) (hs : data.size ≤ 1073741824) :
    Calls Try.prog 62 #[.pointer (some ⟨g, 0, none⟩), .int .u32 (a : Nat), .string data, .int .u64 (now : Nat)] w fun e w' => ∃ v, e = .returned (.tuple #[.int .u64 ((dwrite D a data now).1 : Nat), v, .int .i64 ((dwrite D a data now).2.2.1 : Nat)]) ∧
      N137 w' v (dwrite D a data now).2.1 ∧ (∃ T' vs' lo', RD X B w'.heap.size w' g (dwrite D a data now).2.2.2 qb C T' vs' lo') ∧ KeepZ (TD X B) w w' := by
  have HUP := Lib.hid (h.up h.hi2 (Nat.le_refl _))
  obtain ⟨n, hn⟩ : ∃ n, n = data.size / 8 := ⟨_, rfl⟩
  obtain ⟨r, hr⟩ : ∃ r, r = data.size % 8 := ⟨_, rfl⟩
  have q1 : (data.size : Int) / 8 = (n : Nat) := by omega
  have q2 : (data.size : Int) % 8 = (r : Nat) := by omega
  have hsz : data.size = 8 * n + r := by omega
  have hn2 : n ≤ 134217728 := by omega
  have h2 := dwrite_2 D a data now
  have h30 := dwrite_30 D a data now
  have hok := dwrite_ok D a data now
  rw [← hn, ← hr] at h2 h30
  rw [← hn, ← hr] at hok
  clear hn hr
  by_cases he : data.size = 0
  · rw [h2 (by omega)]
    obtain rfl : data = ByteArray.empty := ByteArray.ext (by have : data.data.size = 0 := he; exact Array.eq_empty_of_size_eq_zero this)
    clear h2 h30 hok hsz he q1 q2 h
    go_enter Try.func62, Try.ntmps62
    go_wp2_with fail
    refine bodyPost_ret (results_tmp3 rfl _ _ _) rfl ?_
    exact ⟨_, rfl, Sl.nil _, ⟨_, _, _, HUP.out⟩, KeepZ.refl _ _⟩
  · have hnil : data.toList ≠ [] := by
      rw [ByteArray.toList_eq]
      intro e
      exact he (by show data.data.size = 0; rw [← Array.length_toList, e]; rfl)
    have s1 : (data.toList = []) = False := eq_false hnil
    have s2 : data.toList.isEmpty = false := by
      cases hh : data.toList with
      | nil => exact absurd hh hnil
      | cons x l => rfl
    clear hnil
    by_cases hr0 : r = 0
    · subst hr0
      have hd : dwrite D a data now = dbegin D a n true data now := by
        by_cases hb : D.blocks < n
        · rw [h30 (by omega) hb, dbegin_30 D a n true data now (by omega)]
        · exact hok (by omega) hb
      rw [hd]
      have HB := Lib.hid (rbegin_any a n now true data h few hfit hb32 ha (by omega) (fun _ => by omega))
      have w1 := IntWalk.u64_in (a : Int) (by omega)
      have w2 := IntWalk.u64_in (n : Int) (by omega)
      generalize dbegin D a n true data now = res at *
      clear h2 h30 hok hd h hfit few
      go_enter Try.func62, Try.ntmps62
      go_wp2_with fail
      refine HB.out.mono ?_
      rintro e w2 ⟨v, rfl, hv, hr, hk⟩
      have HV := Lib.hid hv
      have HR := Lib.hid hr
      clear hv hr
      go_wp2_with fail
      refine bodyPost_ret (results_tmp3 rfl _ _ _) rfl ?_
      exact ⟨_, rfl, HV.out, HR.out, hk⟩
    · rw [h2 (.inr hr0)]
      have e2 : ((r : Int) == 0) = false := beq_eq_false_iff_ne.2 (by omega)
      have e3 : ((r : Int) != 0) = true := by rw [bne_iff_ne]; omega
      clear h2 h30 hok hsz he h hfit few
      go_enter Try.func62, Try.ntmps62
      go_wp2_with fail
      refine bodyPost_ret (results_tmp3 rfl _ _ _) rfl ?_
      exact ⟨_, rfl, Sl.nil _, ⟨_, _, _, HUP.out⟩, KeepZ.refl _ _⟩
end
end Go.Proofs.Ytimdaioojnohmaa

namespace Go.Proofs.Ytimdaioojnohmaa
open Go.RowKit Go.Maps

theorem RX.keepX {X : Nat → Prop} {w w' : World} {v : Value} {l : List Nat} {T : Nat → Option TypeId → Prop} (h : RX X w v l) (hk : KeepZ T w w') (hT : ∀ k, ¬ X k → ¬ T k (some 29)) : RX X w' v l := by
  obtain ⟨⟨A, k, rfl, ho⟩, hx⟩ := h
  exact ⟨⟨A, k, rfl, hk.row ho (fun i hi => hT i (hx i hi))⟩, hx⟩
theorem DAt.overD {X : Nat → Prop} {B hi : Nat} {w w' : World} {g : Nat} {D : DD} (h : DAt X B hi w g D) (hk : KeepZ (TD X B) w w') : DAt X B hi w' g D := by
  obtain ⟨qb, C, M, f, lo, tb, hb, hg, hq, h0, hc, hm, hM, hn, ht, hl, hB, hh, hs⟩ := h
  have no : ∀ k s, s = none ∨ s = some 71 ∨ s = some 116 ∨ s = some 160 ∨ s = some 143 ∨ s = some 145 → ¬ TD X B k s := fun k s e ⟨_, h⟩ => by
    rcases e with rfl | rfl | rfl | rfl | rfl | rfl <;> simp at h
  have n29 : ∀ k, ¬ X k → ¬ TD X B k (some 29) := fun k hx ⟨_, h⟩ => by
    simp at h
    exact hx h
  refine ⟨qb, C, M, f, lo, tb, hk.blk hb (no _ _ (by simp [sig])), hg, hq.keep hk (fun k => ⟨no _ _ (by simp), no _ _ (by simp)⟩), h0, hc.keepX hk n29, hm.keepZ hk (no _ _ (by simp)), hM, hn, fun i h => ⟨(ht i h).1, ?_⟩, hl, hB, hh, Nat.le_trans hs hk.size⟩
  obtain ⟨t1, t2, A, k, W, hbk, ho, hin, hw⟩ := (ht i h).2
  exact ⟨t1, t2, A, k, W, hk.blk hbk (no _ _ (by simp [sig])), hk.row ho (fun i _ => no _ _ (by simp)), hin, hw.keepX hk n29⟩
theorem DAt.widen {X X' : Nat → Prop} {B hi : Nat} {w : World} {g : Nat} {D : DD} (h : DAt X B hi w g D) (hX : ∀ k, X' k → X k ∨ w.heap.size ≤ k) : DAt X' B hi w g D := by
  obtain ⟨qb, C, M, f, lo, tb, hb, hg, hq, h0, hc, hm, hM, hn, ht, hl, hB, hh, hs⟩ := h
  have hM' : B ≤ M ∧ ¬ X' M := ⟨hM.1, fun e => by
    rcases hX M e with e | e
    · exact hM.2 e
    · obtain ⟨es, c, hb⟩ := hm.at_
      have := lt_of_block hb
      omega⟩
  refine ⟨qb, C, M, f, lo, tb, hb, hg, hq, h0, hc.foreign (Keep.refl _ _) hX, hm, hM', hn, fun i h => ⟨(ht i h).1, ?_⟩, hl, hB, hh, hs⟩
  obtain ⟨t1, t2, A, k, W, hbk, ho, hin, hw⟩ := (ht i h).2
  exact ⟨t1, t2, A, k, W, hbk, ho, hin, hw.foreign (Keep.refl _ _) hX⟩
theorem RD.lower {X : Nat → Prop} {B B' hi : Nat} {w : World} {g qb : Nat} {D : DD} {C T : Value} {vs : Nat → RV} {lo : Nat → Nat} (h : RD X B hi w g D qb C T vs lo) (hB : B' ≤ B) : RD X B' hi w g D qb C T vs lo := by
  refine ⟨h.blk, Nat.le_trans hB h.base, h.q.base hB, ?_, ?_, h.ts, h.mono, Nat.le_trans hB h.lo0, h.hi1, h.hi2⟩
  · obtain ⟨A, k, e, ho, hb⟩ := h.c
    exact ⟨A, k, e, ho, fun b hh => ⟨(hb b hh).1, Nat.le_trans hB (hb b hh).2⟩⟩
  · obtain ⟨A, k, e, ho, hb⟩ := h.t
    exact ⟨A, k, e, ho, fun b hh => Nat.le_trans hB (hb b hh)⟩
theorem RD.overP {X : Nat → Prop} {B hi : Nat} {w w' : World} {g qb : Nat} {D : DD} {C T : Value} {vs : Nat → RV} {lo : Nat → Nat} (h : RD X B hi w g D qb C T vs lo) (hk : KeepZ (TP X B) w w') : RD X B hi w' g D qb C T vs lo :=
  h.keepZ hk (fun k s ⟨_, e⟩ => by
    rcases e with ⟨e, _⟩ | e | e | e | e | e <;> subst e <;> refine ⟨?_, ?_, ?_, ?_, ?_, ?_, ?_, ?_⟩ <;> simp)
/-- The program's disk D at g, and the document's D2 at r. -/
structure Bo (X : Nat → Prop) (B : Nat) (w : World) (g r : Nat) (D D2 : DD) : Prop where
  d : DAt X B w.heap.size w g D
  r : ∃ qb C T vs lo, RD X B w.heap.size w r D2 qb C T vs lo
  i : DI D
  x : ∀ k, X k → B ≤ k ∧ k < w.heap.size
/-- From B on anything may be written. -/
def TB (B : Nat) : Nat → Option TypeId → Prop := fun k _ => B ≤ k
theorem TP.tb {X : Nat → Prop} {B : Nat} : ∀ k s, TP X B k s → TB B k s := fun _ _ h => h.1
theorem TD.tb {X : Nat → Prop} {B : Nat} : ∀ k s, TD X B k s → TB B k s := fun _ _ h => h.1
section
variable {X : Nat → Prop} {B : Nat} {w w' : World} {g r : Nat} {D D2 D' : DD}
theorem Bo.no (h : Bo X B w g r D D2) (hk : Keep No w w') : Bo X B w' g r D D2 := by
  obtain ⟨qb, C, T, vs, lo, hr⟩ := h.r
  exact ⟨h.d.top hk, ⟨qb, C, T, vs, lo, (hr.no hk).up hk.size (Nat.le_refl _)⟩, h.i, fun k hx => ⟨(h.x k hx).1, Nat.lt_of_lt_of_le (h.x k hx).2 hk.size⟩⟩
theorem Bo.prog (h : Bo X B w g r D D2) {hi : Nat} (hd : DAt X B hi w' g D') (hi' : DI D') (hk : KeepZ (TP X B) w w') : Bo X B w' g r D' D2 := by
  obtain ⟨qb, C, T, vs, lo, hr⟩ := h.r
  exact ⟨hd.up hd.hi_le (Nat.le_refl _), ⟨qb, C, T, vs, lo, (hr.overP hk).up hk.size (Nat.le_refl _)⟩, hi', fun k hx => ⟨(h.x k hx).1, Nat.lt_of_lt_of_le (h.x k hx).2 hk.size⟩⟩
theorem Bo.doc (h : Bo X B w g r D D2) {hi qb : Nat} {C T : Value} {vs : Nat → RV} {lo : Nat → Nat} (hr : RD X B hi w' r D' qb C T vs lo) (hk : KeepZ (TD X B) w w') : Bo X B w' g r D D' :=
  ⟨(h.d.overD hk).up hk.size (Nat.le_refl _), ⟨qb, C, T, vs, lo, hr.up hr.hi2 (Nat.le_refl _)⟩, h.i, fun k hx => ⟨(h.x k hx).1, Nat.lt_of_lt_of_le (h.x k hx).2 hk.size⟩⟩
theorem Bo.bsize (h : Bo X B w g r D D2) : B ≤ w.heap.size := by
  obtain ⟨qb, C, T, vs, lo, hr⟩ := h.r
  exact hr.bsize
theorem Bo.xs (h : Bo X B w g r D D2) : ∀ k, X k → k < w.heap.size := fun k hx => (h.x k hx).2
end
end Go.Proofs.Ytimdaioojnohmaa
