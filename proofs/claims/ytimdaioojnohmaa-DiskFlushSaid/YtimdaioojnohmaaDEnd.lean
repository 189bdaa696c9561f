/-
  What may be done with a disk in memory; (*Disk).end walked.
-/
import Derived.Test.YtimdaioojnohmaaDAdd
namespace Go.Proofs.Ytimdaioojnohmaa
open Go.RowKit Go.Maps
variable {X : Nat → Prop}

theorem lo_le {lo : Nat → Nat} (hl : ∀ i, lo i ≤ lo (i + 1)) {i j : Nat} (h : i ≤ j) : lo i ≤ lo j := by
  obtain ⟨d, rfl⟩ : ∃ d, j = i + d := ⟨j - i, by omega⟩
  induction d with
  | zero => exact Nat.le_refl _
  | succ d ih => exact Nat.le_trans (ih (by omega)) (hl _)
/-- A task's blocks may be written. -/
def TT (l1 l2 : Nat) : Nat → Option TypeId → Prop := fun k s => l1 ≤ k ∧ k < l2 ∧ (s = some 143 ∨ s = some 145)
theorem DAt.disk {B hi : Nat} {w : World} {g : Nat} {D : DD} (h : DAt X B hi w g D) : ∃ cs, w.heap[g]? = some (.cells cs 71 (0, 0)) ∧ cs[1]? = some (.int .u32 (D.per : Nat)) ∧ cs[2]? = some (.int .u32 (D.blocks : Nat)) ∧ cs[5]? = some (.int .u64 (D.ts.length : Nat)) := by
  obtain ⟨qb, C, M, f, lo, tb, hb, -⟩ := h
  exact ⟨_, hb, rfl, rfl, rfl⟩
theorem DAt.task {B hi : Nat} {w : World} {g : Nat} {D : DD} (h : DAt X B hi w g D) (i : Nat) (hil : i < D.ts.length) : ∃ M f tb l1 l2, w.cell? ⟨g, 4, none⟩ = some (.map (some M)) ∧ MapP w M D.ts.length f ∧ f (i + 1) = some tb ∧ B ≤ l1 ∧
    TAt X w l1 l2 tb D.ts[i] ∧ ∀ w' t', TAt X w' l1 l2 tb t' → KeepZ (TT l1 l2) w w' → DAt X B hi w' g { D with ts := D.ts.set i t' } := by
  obtain ⟨qb, C, M, f, lo, tb, hb, hg, hq, h0, hc, hm, hM, hn, ht, hl, hB, hh, hs⟩ := h
  refine ⟨M, f, tb i, lo i, lo (i + 1), (blk_cell hb 4).trans rfl, hm, (ht i hil).1, Nat.le_trans hB (lo_le hl (Nat.zero_le _)), (ht i hil).2, fun w' t' h' hk => ?_⟩
  have no : ∀ k s, s = none ∨ s = some 71 ∨ s = some 116 ∨ s = some 160 ∨ s = some 29 → ¬ TT (lo i) (lo (i + 1)) k s := fun k s e ⟨_, _, h⟩ => by
    rcases e with rfl | rfl | rfl | rfl | rfl <;> rcases h with h | h <;> simp at h
  refine ⟨qb, C, M, f, lo, tb, ?_, hg, hq.keep hk (fun k => ⟨no k _ (by simp), no k _ (by simp)⟩), h0, hc.keepZ hk (fun k => no k _ (by simp)), ?_, hM, ?_, ?_, hl, hB, ?_, Nat.le_trans hs hk.size⟩
  · simp only [List.length_set]; exact hk.blk hb (no _ _ (by simp [sig]))
  · simp only [List.length_set]; exact hm.keepZ hk (no _ _ (by simp))
  · simp only [List.length_set]; exact hn
  · intro j hj
    simp only [List.length_set] at hj
    refine ⟨(ht j hj).1, ?_⟩
    by_cases e : i = j
    · subst e
      simp only [List.getElem_set_self]
      exact h'
    · simp only [List.getElem_set_ne e]
      refine (ht j hj).2.keepZ hk (fun k h1 h2 => ?_) (fun k => no k _ (by simp))
      have : ¬ (lo i ≤ k ∧ k < lo (i + 1)) := fun ⟨h3, h4⟩ => by
        rcases Nat.lt_or_gt_of_ne e with e | e
        · have := lo_le hl (show i + 1 ≤ j by omega); omega
        · have := lo_le hl (show j + 1 ≤ i by omega); omega
      exact ⟨fun ⟨h3, h4, _⟩ => this ⟨h3, h4⟩, fun ⟨h3, h4, _⟩ => this ⟨h3, h4⟩⟩
  · simp only [List.length_set]; exact hh
theorem DAt.none_ {B hi : Nat} {w : World} {g : Nat} {D : DD} (h : DAt X B hi w g D) (id : Nat) (hid : id = 0 ∨ D.ts.length < id) : ∃ M f, w.cell? ⟨g, 4, none⟩ = some (.map (some M)) ∧ MapP w M D.ts.length f ∧ f id = none := by
  obtain ⟨qb, C, M, f, lo, tb, hb, hg, hq, h0, hc, hm, hM, hn, -⟩ := h
  exact ⟨M, f, (blk_cell hb 4).trans rfl, hm, hn id hid⟩
theorem DAt.queue {B hi : Nat} {w : World} {g : Nat} {D : DD} (h : DAt X B hi w g D) : ∃ qb, w.cell? ⟨g, 0, none⟩ = some (.pointer (some ⟨qb, 0, none⟩)) ∧ QAt B w qb D.most D.pat D.q ∧ 0 < D.most ∧ B ≤ w.heap.size ∧
    ∀ w' q', QAt B w' qb D.most D.pat q' → KeepZ (TQ B) w w' → DAt X B hi w' g { D with q := q' } := by
  obtain ⟨qb, C, M, f, lo, tb, hb, hg, hq, h0, hc, hm, hM, hn, ht, hl, hB, hh, hs⟩ := h
  refine ⟨qb, (blk_cell hb 0).trans rfl, hq, h0, Nat.le_trans (Nat.le_trans (Nat.le_trans hB (lo_le hl (Nat.zero_le _))) hh) hs, fun w' q' h' hk => ?_⟩
  have no : ∀ k s, s = none ∨ s = some 71 ∨ s = some 143 ∨ s = some 145 ∨ s = some 29 → ¬ TQ B k s := fun k s e ⟨_, h⟩ => by
    rcases e with rfl | rfl | rfl | rfl | rfl <;> rcases h with h | h <;> simp at h
  exact ⟨qb, C, M, f, lo, tb, hk.blk hb (no _ _ (by simp [sig])), hg, h', h0, hc.keepZ hk (fun k => no k _ (by simp)), hm.keepZ hk (no _ _ (by simp)), hM, hn,
    fun i h => ⟨(ht i h).1, (ht i h).2.keepZ hk (fun k _ _ => ⟨no k _ (by simp), no k _ (by simp)⟩) (fun k => no k _ (by simp))⟩, hl, hB, hh, Nat.le_trans hs hk.size⟩
theorem TT.tp {B l1 l2 : Nat} (h : B ≤ l1) : ∀ k s, TT l1 l2 k s → TP X B k s := fun k s ⟨h1, _, e⟩ => ⟨Nat.le_trans h h1, by rcases e with e | e <;> simp [e]⟩
/-- A task's state is set. -/
theorem TAt.state {w : World} {l1 l2 tb : Nat} {t : DTask} (h : TAt X w l1 l2 tb t) (n : Nat) : TAt X (w.setCell ⟨tb, 3, none⟩ (.int .i64 (n : Nat))) l1 l2 tb { t with state := n } ∧ KeepZ (TT l1 l2) w (w.setCell ⟨tb, 3, none⟩ (.int .i64 (n : Nat))) := by
  obtain ⟨h1, h2, A, k, W, hb, ho, hi, hw⟩ := h
  have hk : KeepZ (TT tb (tb + 1)) w (w.setCell ⟨tb, 3, none⟩ (.int .i64 (n : Nat))) := (KeepZ.refl _ w).setCell (p := ⟨tb, 3, none⟩) hb ⟨Nat.le_refl _, Nat.lt_succ_self _, .inl rfl⟩ _
  refine ⟨⟨h1, h2, A, k, W, blk_set hb 3 _, ?_, hi, hw.keepZ hk (fun k ⟨_, _, e⟩ => by rcases e with e | e <;> simp at e)⟩, hk.mono (fun k s ⟨a, b, c⟩ => ⟨by omega, by omega, c⟩)⟩
  refine ownsRow_setCell_other ho (fun e => ?_) _
  obtain ⟨cur, hcur⟩ := own_blk ho e
  exact blk_ne hb hcur (by decide) rfl

set_option maxRecDepth 100000 in
set_option maxHeartbeats 1000000 in
theorem dend_any (B hi g i : Nat) (D : DD) (w : World) (h : DAt X B hi w g D) (hil : i < D.ts.length) (few : D.ts.length < 4611686018427387904) :
    Calls Try.prog 77 #[.pointer (some ⟨g, 0, none⟩), .int .u64 ((i + 1 : Nat) : Int)] w fun e w' => (∃ v, e = .returned v) ∧ DAt X B hi w' g (dend D (i + 1)) ∧ KeepZ (TP X B) w w' := by
  obtain ⟨M, f, tb, l1, l2, c4, hm, hf, hB, ht, hnext⟩ := h.task i hil
  obtain ⟨hts, hkz⟩ : TAt X (w.setCell ⟨tb, 3, none⟩ (.int .i64 2)) l1 l2 tb { D.ts[i] with state := 2 } ∧ KeepZ (TT l1 l2) w (w.setCell ⟨tb, 3, none⟩ (.int .i64 2)) := ht.state 2
  have hd2 := hnext _ _ hts hkz
  obtain ⟨qb, c0, hq, h0, hBs, hnq⟩ := hd2.queue
  have hq2 := Lib.hid (qdone_any B qb _ _ (i + 1) _ _ hq h0 hBs)
  have HNQ := Lib.hid hnq
  have HM := Lib.hid hm
  have HF := Lib.hid hf
  have hidl : i + 1 < 18446744073709551616 := by omega
  obtain ⟨-, -, A, k, W, tcell, -⟩ := ht
  have t3 := (blk_cell tcell 3).trans rfl
  have ft3 := blk_free tcell 3
  have HD : Hid (D.ts.getD i default = D.ts[i]) := by show _ = _; rw [List.getD_eq_getElem?_getD, List.getElem?_eq_getElem hil]; rfl
  have hkz1 := Lib.hid (hkz.mono (TT.tp (X := X) hB))
  clear h hm hf hnext hd2 hq hnq few hts hkz tcell
  go_enter Try.func77, Try.ntmps77
  go_wp2_with (at_lookup; refine wpList_lookP _ rfl _ _ rfl M _ f rfl HM.out (i + 1) hidl rfl (some tb) HF.out ?_; show wpList _ _ _ _ (Act.put _ _ (Value.pointer (some ⟨tb, 0, none⟩))) _)
  refine hq2.out.mono ?_
  rintro e w2 ⟨rfl, hq3, hk3⟩
  have hd3 := HNQ.out _ _ hq3 hk3
  have HD3 := Lib.hid hd3
  clear hd3 hq3
  go_wp2_with fail
  go_end0
  refine ⟨⟨_, rfl⟩, ?_, hkz1.out.trans (hk3.mono TQ.tp)⟩
  unfold dend
  rw [Nat.add_sub_cancel, HD.out]
  exact HD3.out
end Go.Proofs.Ytimdaioojnohmaa
