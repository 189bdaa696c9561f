/-
  (*Disk).add and (*Disk).end walked.
  What may be done with a disk in memory; (*Disk).end walked.
-/
import Derived.Test.YtimdaioojnohmaaMDFun
import Derived.Deep.DeepCutAuto
namespace Go.Proofs.Ytimdaioojnohmaa
open Go.RowKit Go.Maps
variable {X : Nat → Prop}

theorem TQ.tp {B : Nat} : ∀ k s, TQ B k s → TP X B k s := fun k s ⟨h, e⟩ => ⟨h, by rcases e with e | e <;> simp [e]⟩
theorem rowput_any (B g most pat id now : Nat) (l : QL) (w : World) (h : QAt B w g most pat l) (h0 : 0 < most) (hBw : B ≤ w.heap.size) :
    Calls Try.prog 90 #[.agg #[.pointer (some ⟨g, 0, none⟩)], .int .u64 id, .int .u64 now] w fun e w' => e = .returned (.int .i64 ((qput most l id now).1 : Nat)) ∧ QAt B w' g most pat (qput most l id now).2 ∧ KeepZ (TQ B) w w' := by
  have k1 : Keep No w (w.alloc (.cells #[.pointer (some ⟨g, 0, none⟩)] 68)) := (Keep.refl _ _).alloc _
  have HP := Lib.hid (qput_any B g most pat id now l _ (h.no k1) h0 (Nat.le_trans hBw k1.size))
  clear h h0
  generalize qput most l id now = r at *
  go_enter Try.func90, Try.ntmps90
  go_wp2_with fail
  refine HP.out.mono ?_
  rintro e w1 ⟨rfl, hq, hk⟩
  go_wp2_with fail
  go_ret
  exact ⟨rfl, hq, (KeepZ.of k1).trans hk⟩

set_option maxRecDepth 100000 in
set_option maxHeartbeats 400000 in
theorem dadd_any (B hi g tb now : Nat) (D : DD) (t : DTask) (w : World) (h : DAt X B hi w g D) (few : D.ts.length < 4611686018427387904) (ht : TAt X w hi w.heap.size tb t) :
    Calls Try.prog 73 #[.pointer (some ⟨g, 0, none⟩), .pointer (some ⟨tb, 0, none⟩), .int .u64 (now : Nat)] w fun e w' =>
      e = .returned (.tuple #[.int .u64 ((dadd D t now).1 : Nat), .int .i64 ((dadd D t now).2.1 : Nat)]) ∧ DAt X B w'.heap.size w' g (dadd D t now).2.2 ∧ KeepZ (TP X B) w w' := by
  obtain ⟨per, blocks, chunks, most, pat, q, ts⟩ := D
  obtain ⟨qb, C, M, f, lo, tbs, hb, hg, hq, h0, hc, hm, hM, hn, hts, hl, hB, hh, hs⟩ := h
  simp only at hb hq h0 hc hm hn hts hh few
  obtain ⟨tl, htl⟩ : ∃ tl, tl = ts.length := ⟨_, rfl⟩
  rw [← htl] at hb hn hh few hm
  have hlo : ∀ i, lo 0 ≤ lo i := fun i => by
    induction i with
    | zero => exact Nat.le_refl _
    | succ i ih => exact Nat.le_trans ih (hl i)
  have hBhi : B ≤ hi := Nat.le_trans (Nat.le_trans hB (hlo _)) hh
  have hgs : g < w.heap.size := lt_of_block hb
  obtain ⟨t1, t2, A, k, W, tcell, trow, tin, tw⟩ := ht
  have hid2 := IntWalk.u64_in ((tl : Int) + 1) (by omega)
  have hid3 : ((tl : Int) + 1) = ((tl + 1 : Nat) : Int) := by omega
  have HP := Lib.hid (rowput_any B qb most pat (tl + 1) now q w.drew hq h0 (Nat.le_trans hBhi hs))
  have HP : Hid (Calls Try.prog 90 #[.agg #[.pointer (some ⟨qb, 0, none⟩)], .int .u64 (IntKind.u64.wrap ((tl : Int) + 1)), .int .u64 (now : Nat)] w.drew fun e w' => e = .returned (.int .i64 ((qput most q (tl + 1) now).1 : Nat)) ∧ QAt B w' qb most pat (qput most q (tl + 1) now).2 ∧ KeepZ (TQ B) w.drew w') := by
    show Calls _ _ _ _ _
    rw [hid2, hid3]
    exact HP.out
  have HFEW := Lib.hid few
  have HB0 := Lib.hid hb
  have c0 := (blk_cell hb 0).trans rfl
  have c5 := (blk_cell hb 5).trans rfl
  unfold dadd
  simp only [← htl]
  obtain ⟨r, hr⟩ : ∃ r, r = qput most q (tl + 1) now := ⟨_, rfl⟩
  rw [← hr] at HP ⊢
  have HR := Lib.hid hr
  have HTL := Lib.hid htl
  have HID2 := Lib.hid hid2
  clear hr few hb htl hid2 hid3
  obtain ⟨code, q'⟩ := r
  simp only at HP ⊢
  have hdgo : (w.drew).heap[g]? = some (.cells #[.pointer (some ⟨qb, 0, none⟩), .int .u32 (per : Nat), .int .u32 (blocks : Nat), C, .map (some M), .int .u64 (tl : Nat)] 71 (0, 0)) := HB0.out
  have hTQ : ∀ k, ¬ TQ B k none ∧ ¬ TQ B k (some 143) ∧ ¬ TQ B k (some 145) ∧ ¬ TQ B k (some 29) := fun k => ⟨fun ⟨_, e⟩ => by rcases e with e | e <;> simp at e, fun ⟨_, e⟩ => by rcases e with e | e <;> simp at e, fun ⟨_, e⟩ => by rcases e with e | e <;> simp at e, fun ⟨_, e⟩ => by rcases e with e | e <;> simp at e⟩
  by_cases hc0 : code = 0
  · subst hc0
    rw [if_pos rfl]
    go_enter Try.func73, Try.ntmps73
    go_wp2_with fail
    go_region_held3 (fun W' => W'.cell? ⟨g, 0, none⟩ = some (.pointer (some ⟨qb, 0, none⟩)) ∧ W'.cell? ⟨g, 5, none⟩ = some (.int .u64 (tl : Nat))) (first | exact ⟨c0, c5⟩ | exact ⟨d0, d5⟩)
      (first
        | (go_at_call 90; refine HP.out.mono ?_; rintro e w1 ⟨rfl, hq1, hk1⟩; have hb1 := KeepZ.blk hk1 hdgo (fun ⟨_, e⟩ => by rcases e with e | e <;> simp [sig] at e); have d0 := (blk_cell hb1 0).trans rfl; have d5 := (blk_cell hb1 5).trans rfl; have HB1 := Lib.hid hb1; have HQ1 := Lib.hid hq1; clear hb1 hq1))
    have htp : KeepZ (TP X B) w w1 := ((KeepZ.refl (TP X B) w).drew).trans (hk1.mono TQ.tp)
    have hk0 : KeepZ (TQ B) w w1 := ((KeepZ.refl (TQ B) w).drew).trans hk1
    clear c0 c5 hdgo
    have tb1 := hk0.blk tcell (hTQ _).2.1
    have hgt : g ≠ tb := blk_ne HB1.out tb1 (by decide)
    have htg : tb ≠ g := hgt.symm
    have e4 := (blk_cell HB1.out 4).trans rfl
    have fr5 := blk_free HB1.out 5
    have t3 := (blk_cell tb1 3).trans rfl
    have ft3 := blk_free tb1 3
    have hid2 := HID2.out
    have TB1 := Lib.hid tb1
    clear tb1
    obtain ⟨W3, hW3⟩ : ∃ W3, W3 = (w1.setCell ⟨g, 5, none⟩ (.int .u64 ((tl : Int) + 1))).setCell ⟨tb, 3, none⟩ (.int .i64 1) := ⟨_, rfl⟩
    have HW3 := Lib.hid hW3
    clear hW3
    go_upto_region 6 with fail
    rw [← HW3.out]
    have hg3 : W3.heap[g]? = some (.cells #[.pointer (some ⟨qb, 0, none⟩), .int .u32 (per : Nat), .int .u32 (blocks : Nat), C, .map (some M), .int .u64 ((tl : Int) + 1)] 71 (0, 0)) := by
      rw [HW3.out]
      exact (blk_far (p := ⟨tb, 3, none⟩) hgt _).trans (blk_set HB1.out 5 _)
    have ht3 : W3.heap[tb]? = some (.cells #[.slice A t.parts.length k, .bool t.write, W, .int .i64 1] 143 (0, 0)) := by
      rw [HW3.out]
      exact blk_set ((blk_far (p := ⟨g, 5, none⟩) htg _).trans TB1.out) 3 _
    have kz13 : KeepZ (fun k s => (k = g ∧ s = some 71) ∨ (k = tb ∧ s = some 143)) w1 W3 := by
      rw [HW3.out]
      exact ((KeepZ.refl _ w1).setCell (p := ⟨g, 5, none⟩) HB1.out (.inl ⟨rfl, rfl⟩) _).setCell (p := ⟨tb, 3, none⟩) ((blk_far (p := ⟨g, 5, none⟩) htg _).trans TB1.out) (.inr ⟨rfl, rfl⟩) _
    have hm3 : MapP W3 M tl f := (hm.keepZ hk0 (hTQ _).1).keepZ kz13 (fun h => by rcases h with ⟨_, e⟩ | ⟨_, e⟩ <;> simp at e)
    have HM3 := Lib.hid hm3
    have HG3 := Lib.hid hg3
    have HT3 := Lib.hid ht3
    have c4 := (blk_cell hg3 4).trans rfl
    have c5 := (blk_cell hg3 5).trans rfl
    have hnm : tl < maxLen := by have := HFEW.out; simp only [maxLen]; omega
    have hidl : tl + 1 < 18446744073709551616 := by have := HFEW.out; omega
    clear hm3 hg3 ht3 d0 d5 e4 fr5 t3 ft3 hid2 HW3
    obtain ⟨w4, hrun, hm4, kz4d⟩ := run_keepP (w := W3.drew) (HM3.out.no (Keep.refl _ _).drew) hnm (tl + 1) tb hidl
    have kz4 : KeepZ (fun k s => k = M ∧ s = none) W3 w4 := ((KeepZ.refl _ W3).drew).trans kz4d
    have hrun2 : (Instr.mapUpdate 69 (.map (some M)) (.int .u64 ((tl : Int) + 1)) (.pointer (some ⟨tb, 0, none⟩))).run Try.prog W3.drew = .ok () w4 := hrun
    clear hrun kz4d
    go_region
    have HM4 := Lib.hid hm4
    have hg4 := kz4.blk (T := fun k s => k = M ∧ s = none) HG3.out (fun ⟨_, e⟩ => by simp [sig] at e)
    have ht4 := kz4.blk (T := fun k s => k = M ∧ s = none) HT3.out (fun ⟨_, e⟩ => by simp [sig] at e)
    have d5 := (blk_cell hg4 5).trans rfl
    have HG4 := Lib.hid hg4
    have HT4 := Lib.hid ht4
    clear hm4 hg4 ht4 c4 c5
    go_wp2_with fail
    go_ret2
    have hsz : w.heap.size ≤ w4.heap.size := Nat.le_trans (Nat.le_trans hk0.size kz13.size) kz4.size
    have htl := HTL.out
    have kall : KeepZ (fun k s => TQ B k s ∨ (k = g ∧ s = some 71) ∨ (k = tb ∧ s = some 143) ∨ (k = M ∧ s = none)) w w4 :=
      ((hk0.mono (fun k s h => .inl h)).trans (kz13.mono (fun k s h => h.elim (fun h => .inr (.inl h)) (fun h => .inr (.inr (.inl h)))))).trans (kz4.mono (fun k s h => .inr (.inr (.inr h))))
    refine ⟨rfl, ⟨qb, C, M, fun j => if j = tl + 1 then some tb else f j, fun i => if i ≤ tl then lo i else w4.heap.size, fun i => if i = tl then tb else tbs i, ?_, hg, ?_, h0, ?_, ?_, hM, ?_, ?_, ?_, ?_, ?_, Nat.le_refl _⟩, ?_⟩
    · have := HG4.out
      simp only [List.length_append, List.length_cons, List.length_nil, ← htl]
      exact this
    · exact ((HQ1.out).keep kz13 (fun k => ⟨fun h => by rcases h with ⟨_, e⟩ | ⟨_, e⟩ <;> simp at e, fun h => by rcases h with ⟨_, e⟩ | ⟨_, e⟩ <;> simp at e⟩)).keep kz4 (fun k => ⟨fun ⟨_, e⟩ => by simp at e, fun ⟨_, e⟩ => by simp at e⟩)
    · exact hc.keepZ kall (fun k h => by rcases h with ⟨_, e⟩ | ⟨_, e⟩ | ⟨_, e⟩ | ⟨_, e⟩ <;> simp at e)
    · simp only [List.length_append, List.length_cons, List.length_nil, ← htl]; exact HM4.out
    · intro id hid
      simp only [List.length_append, List.length_cons, List.length_nil, ← htl] at hid
      dsimp only
      rw [if_neg (by omega)]
      exact hn id (by omega)
    · intro i hi'
      simp only [List.length_append, List.length_cons, List.length_nil, ← htl] at hi'
      by_cases hit : i = tl
      · subst hit
        dsimp only
        rw [if_pos rfl, if_pos rfl, if_pos (Nat.le_refl _), if_neg (by omega)]
        refine ⟨rfl, Nat.le_trans hh t1, Nat.lt_of_lt_of_le t2 hsz, ?_⟩
        have hgi : (ts ++ [({ t with state := 1 } : DTask)])[i]'(by simp; omega) = { t with state := 1 } := by
          rw [List.getElem_append_right (by omega)]; simp [htl]
        rw [hgi]
        refine ⟨A, k, W, HT4.out, kall.row trow (fun j hj h => ?_), fun b hb => ⟨Nat.le_trans hh (tin b hb).1, Nat.lt_of_lt_of_le (tin b hb).2 hsz⟩, tw.keepZ kall (fun k h => by rcases h with ⟨_, e⟩ | ⟨_, e⟩ | ⟨_, e⟩ | ⟨_, e⟩ <;> simp at e)⟩
        rcases h with ⟨_, e⟩ | ⟨_, e⟩ | ⟨_, e⟩ | ⟨_, e⟩ <;> simp at e
      · have hit2 : i < ts.length := by omega
        dsimp only
        rw [if_neg (by omega), if_neg hit, if_pos (by omega), if_pos (by omega)]
        refine ⟨(hts i hit2).1, ?_⟩
        rw [List.getElem_append_left hit2]
        have hlohi : lo (i + 1) ≤ hi := by
          have : ∀ d, lo (i + 1) ≤ lo (i + 1 + d) := fun d => by
            induction d with
            | zero => exact Nat.le_refl _
            | succ d ih => exact Nat.le_trans ih (hl _)
          have h2 := this (tl - (i + 1))
          rw [show i + 1 + (tl - (i + 1)) = tl by omega] at h2
          omega
        exact (hts i hit2).2.keepZ kall (fun k h1 h2 => ⟨fun h => by rcases h with ⟨_, e⟩ | ⟨_, e⟩ | ⟨e, _⟩ | ⟨_, e⟩ <;> first | (simp at e; done) | omega, fun h => by rcases h with ⟨_, e⟩ | ⟨_, e⟩ | ⟨_, e⟩ | ⟨_, e⟩ <;> simp at e⟩) (fun k h => by rcases h with ⟨_, e⟩ | ⟨_, e⟩ | ⟨_, e⟩ | ⟨_, e⟩ <;> simp at e)
    · intro i
      dsimp only
      by_cases h1 : i + 1 ≤ tl
      · rw [if_pos (by omega), if_pos h1]; exact hl i
      · by_cases h2 : i ≤ tl
        · obtain rfl : i = tl := by omega
          rw [if_pos h2, if_neg h1]
          omega
        · rw [if_neg h2, if_neg h1]; exact Nat.le_refl _
    · dsimp only
      rw [if_pos (Nat.zero_le _)]; exact hB
    · simp only [List.length_append, List.length_cons, List.length_nil, ← htl]
      rw [if_neg (by omega)]; exact Nat.le_refl _
    · exact kall.mono (fun k s h => by
        rcases h with h | ⟨rfl, rfl⟩ | ⟨rfl, rfl⟩ | ⟨rfl, rfl⟩
        · exact TQ.tp k s h
        · exact ⟨hg, by simp⟩
        · exact ⟨Nat.le_trans hBhi t1, by simp⟩
        · exact ⟨hM.1, .inl ⟨rfl, hM.2⟩⟩)
  · rw [if_neg hc0]
    have hce : ((code : Int) == 0) = false := beq_eq_false_iff_ne.2 (by omega)
    go_enter Try.func73, Try.ntmps73
    go_wp2_with fail
    go_region_held3 (fun W' => W'.cell? ⟨g, 0, none⟩ = some (.pointer (some ⟨qb, 0, none⟩)) ∧ W'.cell? ⟨g, 5, none⟩ = some (.int .u64 (tl : Nat))) (first | exact ⟨c0, c5⟩ | exact ⟨d0, d5⟩)
      (first
        | (go_at_call 90; refine HP.out.mono ?_; rintro e w1 ⟨rfl, hq1, hk1⟩; have hb1 := KeepZ.blk hk1 hdgo (fun ⟨_, e⟩ => by rcases e with e | e <;> simp [sig] at e); have d0 := (blk_cell hb1 0).trans rfl; have d5 := (blk_cell hb1 5).trans rfl; have HB1 := Lib.hid hb1; have HQ1 := Lib.hid hq1; clear hb1 hq1))
    have htp : KeepZ (TP X B) w w1 := ((KeepZ.refl (TP X B) w).drew).trans (hk1.mono TQ.tp)
    have hk0 : KeepZ (TQ B) w w1 := ((KeepZ.refl (TQ B) w).drew).trans hk1
    clear c0 c5 hdgo
    go_wp2_with fail
    go_ret2
    have htl := HTL.out
    have hfull : q' = q := by
      have h1 := HR.out
      have hcode : code = (qput most q (tl + 1) now).1 := by rw [← h1]
      have hq' : q' = (qput most q (tl + 1) now).2 := by rw [← h1]
      rw [hq']
      unfold qput at hcode ⊢
      by_cases e1 : qhas q (tl + 1) = true
      · rw [if_pos e1]
      · rw [if_neg e1] at hcode ⊢
        by_cases e2 : most ≤ q.length
        · rw [if_pos e2]
        · rw [if_neg e2] at hcode; exact absurd hcode hc0
    subst hfull
    refine ⟨rfl, ⟨qb, C, M, f, lo, tbs, by simp only [← htl]; exact HB1.out, hg, HQ1.out, h0, hc.keepZ hk0 (fun k => (hTQ k).2.2.2), by simp only [← htl]; exact hm.keepZ hk0 (hTQ _).1, hM, by simp only [← htl]; exact hn,
      fun i hi' => ⟨(hts i hi').1, (hts i hi').2.keepZ hk0 (fun k _ _ => ⟨(hTQ k).2.1, (hTQ k).2.2.1⟩) (fun k => (hTQ k).2.2.2)⟩, hl, hB, ?_, Nat.le_refl _⟩, htp⟩
    simp only [← htl]
    exact Nat.le_trans (Nat.le_trans hh hs) hk0.size
end Go.Proofs.Ytimdaioojnohmaa

namespace Go.Proofs.Ytimdaioojnohmaa
open Go.RowKit Go.Maps
variable {X : Nat → Prop}

theorem lo_le {lo : Nat → Nat} (hl : ∀ i, lo i ≤ lo (i + 1)) {i j : Nat} (h : i ≤ j) : lo i ≤ lo j := by
  obtain ⟨d, rfl⟩ : ∃ d, j = i + d := ⟨j - i, by omega⟩
  induction d with
  | zero => exact Nat.le_refl _
  | succ d ih => exact Nat.le_trans (ih (by omega)) (hl _)
/-- A task's blocks may be written. -/
def TT (l1 l2 : Nat) : Nat → Option TypeId → Prop := fun k s => l1 ≤ k ∧ k < l2 ∧ (s = some 143 ∨ s = some 145)
theorem DAt.disk {B hi : Nat} {w : World} {g : Nat} {D : DD} (h : DAt X B hi w g D) : ∃ cs, w.heap[g]? = some (.cells cs 71 (0, 0)) ∧ cs[1]? = some (.int .u32 (D.per : Nat)) ∧ cs[2]? = some (.int .u32 (D.blocks : Nat)) ∧ cs[5]? = some (.int .u64 (D.ts.length : Nat)) := by
  obtain ⟨qb, C, M, f, lo, tb, hb, -⟩ := h
  exact ⟨_, hb, rfl, rfl, rfl⟩
theorem DAt.task {B hi : Nat} {w : World} {g : Nat} {D : DD} (h : DAt X B hi w g D) (i : Nat) (hil : i < D.ts.length) : ∃ M f tb l1 l2, w.cell? ⟨g, 4, none⟩ = some (.map (some M)) ∧ MapP w M D.ts.length f ∧ f (i + 1) = some tb ∧ B ≤ l1 ∧
    TAt X w l1 l2 tb D.ts[i] ∧ ∀ w' t', TAt X w' l1 l2 tb t' → KeepZ (TT l1 l2) w w' → DAt X B hi w' g { D with ts := D.ts.set i t' } := by
  obtain ⟨qb, C, M, f, lo, tb, hb, hg, hq, h0, hc, hm, hM, hn, ht, hl, hB, hh, hs⟩ := h
  refine ⟨M, f, tb i, lo i, lo (i + 1), (blk_cell hb 4).trans rfl, hm, (ht i hil).1, Nat.le_trans hB (lo_le hl (Nat.zero_le _)), (ht i hil).2, fun w' t' h' hk => ?_⟩
  have no : ∀ k s, s = none ∨ s = some 71 ∨ s = some 116 ∨ s = some 160 ∨ s = some 29 → ¬ TT (lo i) (lo (i + 1)) k s := fun k s e ⟨_, _, h⟩ => by
    rcases e with rfl | rfl | rfl | rfl | rfl <;> rcases h with h | h <;> simp at h
  refine ⟨qb, C, M, f, lo, tb, ?_, hg, hq.keep hk (fun k => ⟨no k _ (by simp), no k _ (by simp)⟩), h0, hc.keepZ hk (fun k => no k _ (by simp)), ?_, hM, ?_, ?_, hl, hB, ?_, Nat.le_trans hs hk.size⟩
  · simp only [List.length_set]; exact hk.blk hb (no _ _ (by simp [sig]))
  · simp only [List.length_set]; exact hm.keepZ hk (no _ _ (by simp))
  · simp only [List.length_set]; exact hn
  · intro j hj
    simp only [List.length_set] at hj
    refine ⟨(ht j hj).1, ?_⟩
    by_cases e : i = j
    · subst e
      simp only [List.getElem_set_self]
      exact h'
    · simp only [List.getElem_set_ne e]
      refine (ht j hj).2.keepZ hk (fun k h1 h2 => ?_) (fun k => no k _ (by simp))
      have : ¬ (lo i ≤ k ∧ k < lo (i + 1)) := fun ⟨h3, h4⟩ => by
        rcases Nat.lt_or_gt_of_ne e with e | e
        · have := lo_le hl (show i + 1 ≤ j by omega); omega
        · have := lo_le hl (show j + 1 ≤ i by omega); omega
      exact ⟨fun ⟨h3, h4, _⟩ => this ⟨h3, h4⟩, fun ⟨h3, h4, _⟩ => this ⟨h3, h4⟩⟩
  · simp only [List.length_set]; exact hh
theorem DAt.none_ {B hi : Nat} {w : World} {g : Nat} {D : DD} (h : DAt X B hi w g D) (id : Nat) (hid : id = 0 ∨ D.ts.length < id) : ∃ M f, w.cell? ⟨g, 4, none⟩ = some (.map (some M)) ∧ MapP w M D.ts.length f ∧ f id = none := by
  obtain ⟨qb, C, M, f, lo, tb, hb, hg, hq, h0, hc, hm, hM, hn, -⟩ := h
  exact ⟨M, f, (blk_cell hb 4).trans rfl, hm, hn id hid⟩
theorem DAt.queue {B hi : Nat} {w : World} {g : Nat} {D : DD} (h : DAt X B hi w g D) : ∃ qb, w.cell? ⟨g, 0, none⟩ = some (.pointer (some ⟨qb, 0, none⟩)) ∧ QAt B w qb D.most D.pat D.q ∧ 0 < D.most ∧ B ≤ w.heap.size ∧
    ∀ w' q', QAt B w' qb D.most D.pat q' → KeepZ (TQ B) w w' → DAt X B hi w' g { D with q := q' } := by
  obtain ⟨qb, C, M, f, lo, tb, hb, hg, hq, h0, hc, hm, hM, hn, ht, hl, hB, hh, hs⟩ := h
  refine ⟨qb, (blk_cell hb 0).trans rfl, hq, h0, Nat.le_trans (Nat.le_trans (Nat.le_trans hB (lo_le hl (Nat.zero_le _))) hh) hs, fun w' q' h' hk => ?_⟩
  have no : ∀ k s, s = none ∨ s = some 71 ∨ s = some 143 ∨ s = some 145 ∨ s = some 29 → ¬ TQ B k s := fun k s e ⟨_, h⟩ => by
    rcases e with rfl | rfl | rfl | rfl | rfl <;> rcases h with h | h <;> simp at h
  exact ⟨qb, C, M, f, lo, tb, hk.blk hb (no _ _ (by simp [sig])), hg, h', h0, hc.keepZ hk (fun k => no k _ (by simp)), hm.keepZ hk (no _ _ (by simp)), hM, hn,
    fun i h => ⟨(ht i h).1, (ht i h).2.keepZ hk (fun k _ _ => ⟨no k _ (by simp), no k _ (by simp)⟩) (fun k => no k _ (by simp))⟩, hl, hB, hh, Nat.le_trans hs hk.size⟩
theorem TT.tp {B l1 l2 : Nat} (h : B ≤ l1) : ∀ k s, TT l1 l2 k s → TP X B k s := fun k s ⟨h1, _, e⟩ => ⟨Nat.le_trans h h1, by rcases e with e | e <;> simp [e]⟩
/-- A task's state is set. -/
theorem TAt.state {w : World} {l1 l2 tb : Nat} {t : DTask} (h : TAt X w l1 l2 tb t) (n : Nat) : TAt X (w.setCell ⟨tb, 3, none⟩ (.int .i64 (n : Nat))) l1 l2 tb { t with state := n } ∧ KeepZ (TT l1 l2) w (w.setCell ⟨tb, 3, none⟩ (.int .i64 (n : Nat))) := by
  obtain ⟨h1, h2, A, k, W, hb, ho, hi, hw⟩ := h
  have hk : KeepZ (TT tb (tb + 1)) w (w.setCell ⟨tb, 3, none⟩ (.int .i64 (n : Nat))) := (KeepZ.refl _ w).setCell (p := ⟨tb, 3, none⟩) hb ⟨Nat.le_refl _, Nat.lt_succ_self _, .inl rfl⟩ _
  refine ⟨⟨h1, h2, A, k, W, blk_set hb 3 _, ?_, hi, hw.keepZ hk (fun k ⟨_, _, e⟩ => by rcases e with e | e <;> simp at e)⟩, hk.mono (fun k s ⟨a, b, c⟩ => ⟨by omega, by omega, c⟩)⟩
  refine ownsRow_setCell_other ho (fun e => ?_) _
  obtain ⟨cur, hcur⟩ := own_blk ho e
  exact blk_ne hb hcur (by decide) rfl

set_option maxRecDepth 100000 in
set_option maxHeartbeats 1000000 in
theorem dend_any (B hi g i : Nat) (D : DD) (w : World) (h : DAt X B hi w g D) (hil : i < D.ts.length) (few : D.ts.length < 4611686018427387904) :
    Calls Try.prog 77 #[.pointer (some ⟨g, 0, none⟩), .int .u64 ((i + 1 : Nat) : Int)] w fun e w' => (∃ v, e = .returned v) ∧ DAt X B hi w' g (dend D (i + 1)) ∧ KeepZ (TP X B) w w' := by
  obtain ⟨M, f, tb, l1, l2, c4, hm, hf, hB, ht, hnext⟩ := h.task i hil
  obtain ⟨hts, hkz⟩ : TAt X (w.setCell ⟨tb, 3, none⟩ (.int .i64 2)) l1 l2 tb { D.ts[i] with state := 2 } ∧ KeepZ (TT l1 l2) w (w.setCell ⟨tb, 3, none⟩ (.int .i64 2)) := ht.state 2
  have hd2 := hnext _ _ hts hkz
  obtain ⟨qb, c0, hq, h0, hBs, hnq⟩ := hd2.queue
  have hq2 := Lib.hid (qdone_any B qb _ _ (i + 1) _ _ hq h0 hBs)
  have HNQ := Lib.hid hnq
  have HM := Lib.hid hm
  have HF := Lib.hid hf
  have hidl : i + 1 < 18446744073709551616 := by omega
  obtain ⟨-, -, A, k, W, tcell, -⟩ := ht
  have t3 := (blk_cell tcell 3).trans rfl
  have ft3 := blk_free tcell 3
  have HD : Hid (D.ts.getD i default = D.ts[i]) := by show _ = _; rw [List.getD_eq_getElem?_getD, List.getElem?_eq_getElem hil]; rfl
  have hkz1 := Lib.hid (hkz.mono (TT.tp (X := X) hB))
  clear h hm hf hnext hd2 hq hnq few hts hkz tcell
  go_enter Try.func77, Try.ntmps77
  go_wp2_with (at_lookup; refine wpList_lookP _ rfl _ _ rfl M _ f rfl HM.out (i + 1) hidl rfl (some tb) HF.out ?_; show wpList _ _ _ _ (Act.put _ _ (Value.pointer (some ⟨tb, 0, none⟩))) _)
  refine hq2.out.mono ?_
  rintro e w2 ⟨rfl, hq3, hk3⟩
  have hd3 := HNQ.out _ _ hq3 hk3
  have HD3 := Lib.hid hd3
  clear hd3 hq3
  go_wp2_with fail
  go_end0
  refine ⟨⟨_, rfl⟩, ?_, hkz1.out.trans (hk3.mono TQ.tp)⟩
  unfold dend
  rw [Nat.add_sub_cancel, HD.out]
  exact HD3.out
end Go.Proofs.Ytimdaioojnohmaa
