/-
  slices.Equal walked at rows of numbers.
  (*Disk).Grow walked.
-/
import Derived.Test.YtimdaioojnohmaaMRows64
import Derived.Test.YtimdaioojnohmaaMDState
namespace Go.Proofs.Ytimdaioojnohmaa
open Go.RowKit

theorem equal_any (v u : Value) (l m : List Nat) (w : World) (h : N64 w v l) (h2 : N64 w u m) (hl : l.length ≤ 4503599627370496) (hm : m.length ≤ 4503599627370496) : Calls Try.prog 78 #[v, u] w fun e w' =>
    e = .returned (.bool (decide (l = m))) ∧ ∃ n, w' = w.drewN n := by
  obtain ⟨A, c, rfl, -⟩ := Sl.shape h
  obtain ⟨A2, c2, rfl, -⟩ := Sl.shape h2
  have H := Lib.hid h
  have H2 := Lib.hid h2
  clear h h2
  by_cases hlen : l.length = m.length
  · have hlen2 : ((l.length : Int) == (m.length : Int)) = true := beq_iff_eq.2 (by omega)
    have hlen3 : ((l.length : Int) != (m.length : Int)) = false := by rw [bne_eq_false_iff_eq]; omega
    have HL := Lib.hid hlen
    clear hlen
    go_enter Try.func78, Try.ntmps78
    go_wp2_with fail
    go_loopw [13] (fun iv wr => ∃ i, i ≤ l.length ∧ iv = .int .i64 (i : Nat) ∧ Hid (l.take i = m.take i) ∧ ∃ n, wr = w.drewN n) (fun iv _ => l.length - (intOf iv).toNat)
    case atStart => exact ⟨0, Nat.zero_le _, rfl, by show _ = _; simp, 0, rfl⟩
    case round =>
      obtain ⟨i, hi, rfl, hno, nn, rfl⟩ := hrel
      by_cases hlt : i < l.length
      · have hlt2 : i < m.length := by have := HL.out; omega
        obtain ⟨b, o, c', hv, hc', hcell⟩ := H.out.at_ i hlt
        obtain ⟨b2, o2, c2', hv2, hc2', hcell2⟩ := H2.out.at_ i hlt2
        injection hv with hA _ hcc
        subst hA hcc
        injection hv2 with hA2 _ hcc2
        subst hA2 hcc2
        by_cases he : l[i] = m[i]
        · have he2 : ((l[i] : Int) != (m[i] : Int)) = false := by rw [bne_eq_false_iff_eq]; omega
          have HE := Lib.hid he
          clear he hlen2 hlen3
          generalize hx : l[i] = x at *
          generalize hy : m[i] = y at *
          have HX := Lib.hid hx
          have HY := Lib.hid hy
          clear hx hy
          go_wp2_with fail
          go_quiet (fail)
          go_wp2_with fail
          refine ⟨⟨i + 1, by omega, by simp, ?_, _, rfl⟩, by simp [intOf]; omega⟩
          show _ = _
          rw [List.take_succ_eq_append_getElem hlt, List.take_succ_eq_append_getElem hlt2, HX.out, HY.out, HE.out, hno.out]
        · have he2 : ((l[i] : Int) != (m[i] : Int)) = true := by rw [bne_iff_ne]; omega
          have hd : decide (l = m) = false := by
            rw [decide_eq_false_iff_not]
            rintro rfl
            exact he rfl
          have HD := Lib.hid hd
          clear he hlen2 hlen3 hd
          generalize l[i] = x at *
          generalize m[i] = y at *
          go_wp2_with fail
          go_quiet (fail)
          go_wp2_with fail
          go_ret
          exact ⟨ret_bool HD.out.symm, _, World.drewN_drewN _ _ _⟩
      · have hd : decide (l = m) = true := by
          rw [decide_eq_true_eq]
          have := hno.out
          rwa [List.take_of_length_le (by omega), List.take_of_length_le (by have := HL.out; omega)] at this
        have HD := Lib.hid hd
        clear hd
        go_wp2_with fail
        go_ret
        exact ⟨ret_bool HD.out.symm, _, rfl⟩
  · have hlen3 : ((l.length : Int) != (m.length : Int)) = true := by rw [bne_iff_ne]; omega
    have hd : decide (l = m) = false := by
      rw [decide_eq_false_iff_not]
      rintro rfl
      exact hlen rfl
    have HD := Lib.hid hd
    clear hd hlen
    go_enter Try.func78, Try.ntmps78
    go_wp2_with fail
    go_ret
    exact ⟨ret_bool HD.out.symm, 0, rfl⟩

end Go.Proofs.Ytimdaioojnohmaa

namespace Go.Proofs.Ytimdaioojnohmaa
open Go.RowKit Go.Maps
variable {X : Nat → Prop}

theorem Rd.at64 {w : World} {v : Value} {l : List Nat} (h : Rd w v l.length (l.map u64v)) (hne : l ≠ []) : ∃ b o c, v = .slice (some ⟨b, o, none⟩) l.length c ∧ l.length ≤ c ∧ ∀ n, n ≤ l.length → N64 w (.slice (some ⟨b, o, none⟩) n c) (l.take n) := by
  obtain ⟨A, c, rfl, hc, hx⟩ := h
  have hpos : 0 < l.length := List.length_pos_iff.2 hne
  obtain ⟨b, o, rfl, -⟩ := hx 0 (u64v l[0]) (by simp [hpos])
  refine ⟨b, o, c, rfl, hc, fun n hn => ?_⟩
  show Sl _ _ _ _
  rw [List.length_take, Nat.min_eq_left hn]
  refine .inr ⟨b, o, c, rfl, by omega, fun j u hj => ?_⟩
  obtain ⟨b1, o1, e, hcell⟩ := hx j u (by
    rw [List.map_take] at hj
    rw [List.getElem?_take] at hj
    split at hj
    · exact hj
    · cases hj)
  cases e
  exact hcell
theorem DAt.grow {B hi : Nat} {w : World} {g : Nat} {D : DD} (h : DAt X B hi w g D) (blocks : Nat) (chunks : List Nat) (C : Value) (hC : RX X w C chunks) :
    DAt X B hi ((w.setCell ⟨g, 2, none⟩ (.int .u32 (blocks : Nat))).setCell ⟨g, 3, none⟩ C) g { D with blocks := blocks, chunks := chunks } ∧ KeepZ (TP X B) w ((w.setCell ⟨g, 2, none⟩ (.int .u32 (blocks : Nat))).setCell ⟨g, 3, none⟩ C) := by
  obtain ⟨qb, C0, M, f, lo, tb, hb, hg, hq, h0, hc, hm, hM, hn, ht, hl, hB, hh, hs⟩ := h
  have hk1 : KeepZ (fun k s => k = g ∧ s = some 71) w (w.setCell ⟨g, 2, none⟩ (.int .u32 (blocks : Nat))) := (KeepZ.refl _ w).setCell (p := ⟨g, 2, none⟩) hb ⟨rfl, rfl⟩ _
  have hk2 : KeepZ (fun k s => k = g ∧ s = some 71) w ((w.setCell ⟨g, 2, none⟩ (.int .u32 (blocks : Nat))).setCell ⟨g, 3, none⟩ C) := hk1.setCell (p := ⟨g, 3, none⟩) (blk_set hb 2 _) ⟨rfl, rfl⟩ _
  have no : ∀ k s, s = none ∨ s = some 116 ∨ s = some 160 ∨ s = some 143 ∨ s = some 145 ∨ s = some 29 → ¬ (k = g ∧ s = some 71) := fun k s e ⟨_, h⟩ => by
    subst h
    simp at e
  refine ⟨⟨qb, C, M, f, lo, tb, blk_set (blk_set hb 2 _) 3 _, hg, hq.keep hk2 (fun k => ⟨no k _ (by simp), no k _ (by simp)⟩), h0, hC.keepZ hk2 (fun k => no k _ (by simp)), hm.keepZ hk2 (no _ _ (by simp)), hM, hn,
    fun i h => ⟨(ht i h).1, (ht i h).2.keepZ hk2 (fun k _ _ => ⟨no k _ (by simp), no k _ (by simp)⟩) (fun k => no k _ (by simp))⟩, hl, hB, hh, Nat.le_trans hs hk2.size⟩, hk2.mono (fun k s ⟨e1, e2⟩ => ⟨e1 ▸ hg, by simp [e2]⟩)⟩
theorem dgrow_bad (D : DD) (blocks : Nat) (l : List Nat) (h : blocks < D.blocks ∨ dfit D.per blocks l.length = false ∨ l.take D.chunks.length ≠ D.chunks) : dgrow D blocks l = (2, D) := by
  unfold dgrow
  rw [if_pos h]
theorem dgrow_ok (D : DD) (blocks : Nat) (l : List Nat) (h1 : ¬ blocks < D.blocks) (h2 : dfit D.per blocks l.length = true) (h3 : l.take D.chunks.length = D.chunks) : dgrow D blocks l = (0, { D with blocks := blocks, chunks := l }) := by
  unfold dgrow
  rw [if_neg (by rintro (h | h | h); exact h1 h; rw [h2] at h; cases h; exact h h3)]
theorem dfit_iff (per blocks n : Nat) : dfit per blocks n = true ↔ 1 ≤ per ∧ per ≤ 64 ∧ 1 ≤ blocks ∧ n = (blocks - 1) / per + 1 := by
  unfold dfit
  simp [and_assoc]
theorem DAt.chunks {B hi : Nat} {w : World} {g : Nat} {D : DD} (h : DAt X B hi w g D) : ∃ A c, w.cell? ⟨g, 3, none⟩ = some (.slice A D.chunks.length c) ∧ N64 w (.slice A D.chunks.length c) D.chunks := by
  obtain ⟨qb, C0, M, f, lo, tb, hb, hg, hq, h0, hc, -⟩ := h
  have h64 := hc.1.n64
  obtain ⟨⟨A, k, rfl, -⟩, -⟩ := hc
  exact ⟨A, k, (blk_cell hb 3).trans rfl, h64⟩
theorem fits_w (per blocks : Nat) (A : Option Addr) (n c : Nat) (w : World) (r : Bool) (hp : per < 4294967296) (hb : blocks < 4294967296) (hn : n ≤ 140737488355328) (hr : dfit per blocks n = r) : Calls Try.prog 59 #[.int .u32 per, .int .u32 blocks, .slice A n c] w fun e w' => e = .returned (.bool r) ∧ w' = w := by
  subst hr
  exact (fits_any per blocks A n c w hp hb hn).mono fun _ _ ⟨h1, h2⟩ => ⟨h1, h2.symm⟩
set_option maxRecDepth 100000 in
set_option maxHeartbeats 2000000 in
theorem dgrow_any (B hi g blocks : Nat) (v : Value) (l : List Nat) (D : DD) (w : World) (h : DAt X B hi w g D) (hper : D.per < 4294967296) (hfit : dfit D.per D.blocks D.chunks.length = true) (hb32 : blocks < 4294967296) (hb32' : D.blocks < 4294967296)
    (hl : Rd w v l.length (l.map u64v)) (hln : l.length ≤ 1048576) (hln2 : D.chunks.length ≤ 1048576) (hX : ∀ k, X k → k < w.heap.size) :
    Calls Try.prog 35 #[.pointer (some ⟨g, 0, none⟩), .int .u32 (blocks : Nat), v] w fun e w' => e = .returned (.int .i64 ((dgrow D blocks l).1 : Nat)) ∧ DAt X B hi w' g (dgrow D blocks l).2 ∧ KeepZ (TP X B) w w' := by
  have hf := (dfit_iff _ _ _).1 hfit
  have HNO := Lib.hid (h.notnone (by omega))
  have H := Lib.hid h
  obtain ⟨A3, c3k, c3, hch⟩ := h.chunks
  obtain ⟨cs, hcs, hc1, hc2, -⟩ := h.disk
  have c1 := (blk_cell hcs 1).trans hc1
  have c2 := (blk_cell hcs 2).trans hc2
  obtain ⟨A, c, rfl, hlc, -⟩ := id hl
  clear hcs hc1 hc2 h
  by_cases h1 : blocks < D.blocks
  · rw [dgrow_bad D blocks l (.inl h1)]
    have e1 : decide ((blocks : Int) < (D.blocks : Int)) = true := by simp; omega
    have e2 : decide (blocks < D.blocks) = true := by simp; omega
    clear h1 hf hfit hl hch
    generalize D.blocks = db at *
    generalize D.per = dp at *
    go_enter Try.func35, Try.ntmps35
    go_wp2_with fail
    refine HNO.out.mono ?_
    rintro e w1 ⟨rfl, rfl⟩
    go_wp2_with fail
    go_quiet (fail)
    go_wp2_with fail
    go_ret
    exact ⟨rfl, H.out.no ((Keep.refl _ _).drewN _), KeepZ.of ((Keep.refl _ _).drewN _)⟩
  · have e1 : decide ((blocks : Int) < (D.blocks : Int)) = false := by simp; omega
    have e2 : decide (blocks < D.blocks) = false := by simp; omega
    cases hft : dfit D.per blocks l.length
    · rw [dgrow_bad D blocks l (.inr (.inl hft))]
      have hfq := fun W => fits_w D.per blocks A l.length c W false hper hb32 (by omega) hft
      have HFQ := Lib.hid hfq
      clear h1 hf hfit hl hch hfq hft
      generalize D.blocks = db at *
      generalize D.per = dp at *
      go_enter Try.func35, Try.ntmps35
      go_wp2_with fail
      refine HNO.out.mono ?_
      rintro e w1 ⟨rfl, rfl⟩
      go_wp2_with fail
      go_quiet ((go_at_call 59; exact Calls.quiet_of_same (HFQ.out _)))
      go_wp2_with fail
      go_ret
      exact ⟨rfl, H.out.no ((Keep.refl _ _).drewN _), KeepZ.of ((Keep.refl _ _).drewN _)⟩
    · have hfq := fun W => fits_w D.per blocks A l.length c W true hper hb32 (by omega) hft
      have HFQ := Lib.hid hfq
      have hle : D.chunks.length ≤ l.length := by
        have hf2 := (dfit_iff _ _ _).1 hft
        have := Nat.div_le_div_right (c := D.per) (show D.blocks - 1 ≤ blocks - 1 by omega)
        omega
      have hne : l ≠ [] := by
        rintro rfl
        have hf2 := (dfit_iff _ _ _).1 hft
        have := hf2.2.2.2
        simp at this
      obtain ⟨b, o, c', hv, hc', htk⟩ := hl.at64 hne
      injection hv with hA _ hcc
      subst hA hcc
      have HEQ := Lib.hid (fun W hW => equal_any (.slice (some ⟨b, o, none⟩) D.chunks.length c) (.slice A3 D.chunks.length c3k) (l.take D.chunks.length) D.chunks W ((htk D.chunks.length hle).keep hW) (hch.keep hW) (by rw [List.length_take]; omega) (by omega))
      have hcapI : decide ((D.chunks.length : Int) ≤ (c : Int)) = true := by simp; omega
      have hcapN : decide (D.chunks.length ≤ c) = true := by simp; omega
      have hclen : D.chunks.length ≤ c := by omega
      by_cases heq : l.take D.chunks.length = D.chunks
      · rw [dgrow_ok D blocks l h1 hft heq]
        rw [decide_eq_true heq] at HEQ
        have HCL := Lib.hid (fun W hW => clone_any (.slice (some ⟨b, o, none⟩) l.length c) l W (hl.keep hW) hne hln)
        have HL := Lib.hid hln
        obtain ⟨D2, hD2⟩ : ∃ D2, D2 = D := ⟨_, rfl⟩
        have H2 := H
        rw [← hD2] at H2 ⊢
        clear h1 hf hfit hl hch hfq hft heq htk hne hlc hc' hln hD2
        generalize D.blocks = db at *
        generalize D.per = dp at *
        generalize D.chunks.length = n at *
        go_enter Try.func35, Try.ntmps35
        go_wp2_with fail
        refine HNO.out.mono ?_
        rintro e w1 ⟨rfl, rfl⟩
        go_wp2_with fail
        go_quiet ((first | (go_at_call 59; exact Calls.quiet_of_same (HFQ.out _)) | (go_at_call 78; exact Calls.quiet_of (HEQ.out _ ((Keep.refl _ _).drewN _)))))
        go_wp2_with fail
        refine (HCL.out _ ((Keep.refl _ _).drewN _)).mono ?_
        rintro e w2 ⟨r, rfl, hr, k2⟩
        have k3 : Keep No w w2 := ((Keep.refl No w).drewN _).trans k2
        have hg := (H2.out.no k3).grow blocks l r (hr.rx hX)
        obtain ⟨cs, hcs, -, hc2, -⟩ := (H2.out.no k3).disk
        obtain ⟨A4, c4, c3, -⟩ := (H2.out.no k3).chunks
        obtain ⟨Ar, cr, rfl, -⟩ := id hr
        have f2 := blk_free hcs 2
        have f3 := blk_free hcs 3
        have c2 := (blk_cell hcs 2).trans hc2
        have HG := Lib.hid hg
        have K3 := Lib.hid k3
        clear hg hcs hc2 hr k3
        go_wp2_with fail
        go_ret
        exact ⟨rfl, HG.out.1, (KeepZ.of K3.out).trans HG.out.2⟩
      · rw [dgrow_bad D blocks l (.inr (.inr heq))]
        rw [decide_eq_false heq] at HEQ
        clear h1 hf hfit hl hch hfq hft heq htk hne hlc hc'
        generalize D.blocks = db at *
        generalize D.per = dp at *
        generalize D.chunks.length = n at *
        go_enter Try.func35, Try.ntmps35
        go_wp2_with fail
        refine HNO.out.mono ?_
        rintro e w1 ⟨rfl, rfl⟩
        go_wp2_with fail
        go_quiet ((first | (go_at_call 59; exact Calls.quiet_of_same (HFQ.out _)) | (go_at_call 78; exact Calls.quiet_of (HEQ.out _ ((Keep.refl _ _).drewN _)))))
        go_wp2_with fail
        go_ret
        exact ⟨rfl, H.out.no ((Keep.refl _ _).drewN _), KeepZ.of ((Keep.refl _ _).drewN _)⟩
end Go.Proofs.Ytimdaioojnohmaa
