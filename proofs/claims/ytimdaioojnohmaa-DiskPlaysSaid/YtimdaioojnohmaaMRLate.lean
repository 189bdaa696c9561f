/-
  The document's queue walked: Late.
-/
import Derived.Test.YtimdaioojnohmaaMRQueue
namespace Go.Proofs.Ytimdaioojnohmaa
open Go.RowKit

theorem rlate_any (B g most pat now : Nat) (l : QL) (w : World) (h : RAt B w g most pat l) (hBw : B ≤ w.heap.size) (hnow : now < 18446744073709551616) :
    Calls Try.prog 52 #[.pointer (some ⟨g, 0, none⟩), .int .u64 now] w fun e w' => ∃ r, e = .returned r ∧ New64 w w' r (qlate pat l now).1 ∧ RAt B w' g most pat (qlate pat l now).2 ∧ KeepZ (TR B) w w' := by
  obtain ⟨A, k, hb, ho, hg, hA, hm, hl, hp⟩ := h
  have hP : P64 w (.slice A l.length k) l := Sl.of_own ho
  have H := Lib.hid hP
  have HB := Lib.hid hb
  have HNOW := Lib.hid hnow
  have HP := Lib.hid hp
  clear hP hb ho hnow hp
  go_enter Try.func52, Try.ntmps52
  go_wp2_with fail
  go_loopw [5, 6, 7] (fun yv nv iv wr => ∃ i Y N A1 k1 A2 k2, i ≤ l.length ∧ iv = .int .i64 (i : Nat) ∧ Hid (Y = ((l.take i).filter (islate pat now)).map (·.1)) ∧ Hid (N = (l.take i).filter (fun x => !islate pat now x)) ∧ yv = .slice A1 Y.length k1 ∧ nv = .slice A2 N.length k2 ∧
    wr.ownsRow 0 29 1 (.slice A1 Y.length k1) Y.length (Y.map u64v) ∧ wr.ownsRow 0 111 2 (.slice A2 N.length k2) N.length (N.flatMap qcells) ∧
    (∀ b, (Value.slice A1 Y.length k1).ownBlock = some b → w.heap.size ≤ b) ∧ (∀ b, (Value.slice A2 N.length k2).ownBlock = some b → w.heap.size ≤ b) ∧ Keep No w wr ∧ Y.length ≤ i ∧ N.length ≤ i) (fun _ _ iv _ => l.length - (intOf iv).toNat)
  case atStart => exact ⟨0, [], [], none, 0, none, 0, Nat.zero_le _, rfl, by show _ = _; simp, by show _ = _; simp, rfl, rfl, World.ownsRow_nil _ _ _ _, World.ownsRow_nil _ _ _ _, fun b hb => by simp [Value.ownBlock] at hb, fun b hb => by simp [Value.ownBlock] at hb, Keep.refl _ _, by simp, by simp⟩
  case round =>
    obtain ⟨i, Y, N, A1, k1, A2, k2, hi, rfl, hY, hN, rfl, rfl, ho1, ho2, hA1, hA2, hk, hl1, hl2⟩ := hrel
    have hbr := hk.blk HB.out (fun h => h)
    have c2 := (blk_cell hbr 2).trans rfl
    have c1 := (blk_cell hbr 1).trans rfl
    have HBR := Lib.hid hbr
    clear hbr
    have hne : ∀ b, (Value.slice A1 Y.length k1).ownBlock = some b → ¬ (Value.slice A2 N.length k2).ownBlock = some b := fun b hb he => by
      obtain ⟨cur, hcur⟩ := own_blk ho1 hb
      obtain ⟨cur2, hcur2⟩ := own_blk ho2 he
      exact blk_ne hcur hcur2 (by decide) rfl
    by_cases hlt : i < l.length
    · obtain ⟨b, o, c', hv, hc', hc1, hc2⟩ := P64.at_ (Sl.keep H.out hk (fun _ _ h => h)) i hlt
      injection hv with hAA _ hcc
      subst hAA hcc
      have tY := filter_take (islate pat now) l i hlt
      have tN := filter_take (fun x => !islate pat now x) l i hlt
      have tY2 := congrArg (List.map (·.1)) tY
      rw [List.map_append, ← hY.out] at tY2
      rw [← hN.out] at tN
      clear tY
      have hstay : islate pat now l[i] = false → Hid (((l.take (i + 1)).filter (islate pat now)).map (·.1) = Y) ∧ Hid ((l.take (i + 1)).filter (fun x => !islate pat now x) = N ++ [l[i]]) := fun e => by
        refine ⟨?_, ?_⟩
        · show _ = _; rw [tY2, if_neg (by simp [e])]; simp
        · show _ = _; rw [tN, if_pos (by simp [e])]
      have hgo : islate pat now l[i] = true → Hid (((l.take (i + 1)).filter (islate pat now)).map (·.1) = Y ++ [l[i].1]) ∧ Hid ((l.take (i + 1)).filter (fun x => !islate pat now x) = N) := fun e => by
        refine ⟨?_, ?_⟩
        · show _ = _; rw [tY2, if_pos e]; rfl
        · show _ = _; rw [tN, if_neg (by simp [e])]; simp
      clear tY2 tN
      generalize l[i] = x at *
      by_cases hle : x.2 ≤ now
      · obtain ⟨d, hd⟩ : ∃ d, now - x.2 = d := ⟨_, rfl⟩
        have hdi : (now : Int) - (x.2 : Int) = (d : Nat) := by omega
        have hwd := IntWalk.u64_in (d : Int) (by have := HNOW.out; omega)
        have hy1 : decide ((x.2 : Int) ≤ (now : Int)) = true := by simp; omega
        have hy2 : decide (x.2 ≤ now) = true := by simp; omega
        by_cases hpd : pat ≤ d
        · have hp1 : decide ((pat : Int) ≤ (d : Int)) = true := by simp; omega
          have hp2 : decide (pat ≤ d) = true := by simp; omega
          obtain ⟨HTY, HTN⟩ := hgo (by unfold islate; rw [hd]; simp [hle, hpd])
          clear hd hle hpd hstay hgo
          go_wp2_with fail
          go_big_quiet (fail)
          have hkq := hk.drewN nq
          have HBQ : Hid ((wr.drewN nq).heap[g]? = some (.cells #[.int .i64 most, .int .u64 pat, .slice (some ⟨b, o, none⟩) l.length k] 109 (0, 0))) := HBR
          have q1 : (wr.drewN nq).ownsRow 0 29 1 (.slice A1 Y.length k1) Y.length (Y.map u64v) := ho1
          have q2 : (wr.drewN nq).ownsRow 0 111 2 (.slice A2 N.length k2) N.length (N.flatMap qcells) := ho2
          have d1 : (wr.drewN nq).cell? ⟨b, o + i * 2, none⟩ = some (.int .u64 (x.1 : Nat)) := hc1
          clear hk HBR ho1 ho2 hc1 hc2 c1 c2
          generalize wr.drewN nq = w2 at *
          have c2 := (blk_cell HBQ.out 2).trans rfl
          have hwn : (w2.alloc (.cells #[.int .u64 (x.1 : Nat)] 29)).ownsRow 0 29 1 (.slice A1 Y.length k1) Y.length (Y.map u64v) := q1.alloc _
          have hso : Sl (w2.alloc (.cells #[.int .u64 (x.1 : Nat)] 29)) (.slice (some ⟨w2.heap.size, 0, none⟩) 1 1) 1 ([x.1].map u64v) := Sl.lit _ _ 29 1
          have hone := u64v_one [x.1]
          have h63 : Y.length + 1 ≤ maxLen := by simp only [maxLen]; omega
          have kn : Keep No w (w2.alloc (.cells #[.int .u64 (x.1 : Nat)] 29)) := hkq.alloc _
          go_wp2_with (at_builtin; refine wpList_app rfl _ _ 41 rfl 29 _ 1 8 Try.underlying41 Try.info29 rfl (by decide) _ Y.length _ hwn rfl _ 1 ([x.1].map u64v) hso rfl rfl hone (by omega) h63 ?_; intro A' k' w' ho' hk' hn')
          have hN1 : ∀ b, (Value.slice A2 N.length k2).ownBlock = some b → b < w2.heap.size := fun b hb => own_lt q2 hb
          refine ⟨⟨i + 1, Y ++ [x.1], N, A', k', A2, k2, by omega, by simp, HTY.out.symm, HTN.out.symm, by rw [List.length_append]; rfl, rfl, ?_, ?_, ?_, hA2, kn.fresh hk' hA1, by rw [List.length_append]; simp; omega, by omega⟩, by simp [intOf]; omega⟩
          · rw [List.length_append, List.map_append]; exact ho'
          · exact own_keep (q2.alloc (.cells #[.int .u64 (x.1 : Nat)] 29)) hk' (fun b hb e => hne b e hb)
          · intro b hb
            rw [List.length_append] at hb
            rcases hn' b hb with e | e
            · exact hA1 b e
            · have := kn.size; omega
        · have hp1 : decide ((pat : Int) ≤ (d : Int)) = false := by simp; omega
          have hp2 : decide (pat ≤ d) = false := by simp; omega
          obtain ⟨HTY, HTN⟩ := hstay (by unfold islate; rw [hd]; simp [hle]; omega)
          clear hd hle hpd hstay hgo
          go_wp2_with fail
          go_big_quiet (fail)
          have hkq := hk.drewN nq
          have HBQ : Hid ((wr.drewN nq).heap[g]? = some (.cells #[.int .i64 most, .int .u64 pat, .slice (some ⟨b, o, none⟩) l.length k] 109 (0, 0))) := HBR
          have q1 : (wr.drewN nq).ownsRow 0 29 1 (.slice A1 Y.length k1) Y.length (Y.map u64v) := ho1
          have q2 : (wr.drewN nq).ownsRow 0 111 2 (.slice A2 N.length k2) N.length (N.flatMap qcells) := ho2
          have d1 : (wr.drewN nq).cell? ⟨b, o + i * 2, none⟩ = some (.int .u64 (x.1 : Nat)) := hc1
          have d2 : (wr.drewN nq).cell? ⟨b, o + i * 2 + 1, none⟩ = some (.int .u64 (x.2 : Nat)) := hc2
          clear hk HBR ho1 ho2 hc1 hc2 c1 c2
          generalize wr.drewN nq = w2 at *
          have c2 := (blk_cell HBQ.out 2).trans rfl
          have hwn : (w2.alloc (.cells #[.int .u64 (x.1 : Nat), .int .u64 (x.2 : Nat)] 111)).ownsRow 0 111 2 (.slice A2 N.length k2) N.length (N.flatMap qcells) := q2.alloc _
          have hso : Sl (w2.alloc (.cells #[.int .u64 (x.1 : Nat), .int .u64 (x.2 : Nat)] 111)) (.slice (some ⟨w2.heap.size, 0, none⟩) 1 1) 1 (qcells x) := Sl.lit _ _ 111 1
          have hone := qcells_one x
          have h63 : N.length + 1 ≤ maxLen := by simp only [maxLen]; omega
          have kn : Keep No w (w2.alloc (.cells #[.int .u64 (x.1 : Nat), .int .u64 (x.2 : Nat)] 111)) := hkq.alloc _
          go_wp2_with (at_builtin; refine wpList_app rfl _ _ 107 rfl 111 _ 2 16 Try.underlying107 Try.info111 rfl (by decide) _ N.length _ hwn rfl _ 1 (qcells x) hso rfl rfl hone (by omega) h63 ?_; intro A' k' w' ho' hk' hn')
          refine ⟨⟨i + 1, Y, N ++ [x], A1, k1, A', k', by omega, by simp, HTY.out.symm, HTN.out.symm, rfl, by rw [List.length_append]; rfl, ?_, ?_, hA1, ?_, kn.fresh hk' hA2, by omega, by rw [List.length_append]; simp; omega⟩, by simp [intOf]; omega⟩
          · exact own_keep (q1.alloc (.cells #[.int .u64 (x.1 : Nat), .int .u64 (x.2 : Nat)] 111)) hk' (fun b hb e => hne b hb e)
          · rw [List.length_append, flat_snoc]; exact ho'
          · intro b hb
            rw [List.length_append] at hb
            rcases hn' b hb with e | e
            · exact hA2 b e
            · have := kn.size; omega
      · have hy1 : decide ((x.2 : Int) ≤ (now : Int)) = false := by simp; omega
        have hy2 : decide (x.2 ≤ now) = false := by simp; omega
        obtain ⟨HTY, HTN⟩ := hstay (by unfold islate; simp [hle])
        clear hle hstay hgo
        go_wp2_with fail
        go_big_quiet (fail)
        have hkq := hk.drewN nq
        have HBQ : Hid ((wr.drewN nq).heap[g]? = some (.cells #[.int .i64 most, .int .u64 pat, .slice (some ⟨b, o, none⟩) l.length k] 109 (0, 0))) := HBR
        have q1 : (wr.drewN nq).ownsRow 0 29 1 (.slice A1 Y.length k1) Y.length (Y.map u64v) := ho1
        have q2 : (wr.drewN nq).ownsRow 0 111 2 (.slice A2 N.length k2) N.length (N.flatMap qcells) := ho2
        have d1 : (wr.drewN nq).cell? ⟨b, o + i * 2, none⟩ = some (.int .u64 (x.1 : Nat)) := hc1
        have d2 : (wr.drewN nq).cell? ⟨b, o + i * 2 + 1, none⟩ = some (.int .u64 (x.2 : Nat)) := hc2
        clear hk HBR ho1 ho2 hc1 hc2 c1 c2
        generalize wr.drewN nq = w2 at *
        have c2 := (blk_cell HBQ.out 2).trans rfl
        have hwn : (w2.alloc (.cells #[.int .u64 (x.1 : Nat), .int .u64 (x.2 : Nat)] 111)).ownsRow 0 111 2 (.slice A2 N.length k2) N.length (N.flatMap qcells) := q2.alloc _
        have hso : Sl (w2.alloc (.cells #[.int .u64 (x.1 : Nat), .int .u64 (x.2 : Nat)] 111)) (.slice (some ⟨w2.heap.size, 0, none⟩) 1 1) 1 (qcells x) := Sl.lit _ _ 111 1
        have hone := qcells_one x
        have h63 : N.length + 1 ≤ maxLen := by simp only [maxLen]; omega
        have kn : Keep No w (w2.alloc (.cells #[.int .u64 (x.1 : Nat), .int .u64 (x.2 : Nat)] 111)) := hkq.alloc _
        go_wp2_with (at_builtin; refine wpList_app rfl _ _ 107 rfl 111 _ 2 16 Try.underlying107 Try.info111 rfl (by decide) _ N.length _ hwn rfl _ 1 (qcells x) hso rfl rfl hone (by omega) h63 ?_; intro A' k' w' ho' hk' hn')
        refine ⟨⟨i + 1, Y, N ++ [x], A1, k1, A', k', by omega, by simp, HTY.out.symm, HTN.out.symm, rfl, by rw [List.length_append]; rfl, ?_, ?_, hA1, ?_, kn.fresh hk' hA2, by omega, by rw [List.length_append]; simp; omega⟩, by simp [intOf]; omega⟩
        · exact own_keep (q1.alloc (.cells #[.int .u64 (x.1 : Nat), .int .u64 (x.2 : Nat)] 111)) hk' (fun b hb e => hne b hb e)
        · rw [List.length_append, flat_snoc]; exact ho'
        · intro b hb
          rw [List.length_append] at hb
          rcases hn' b hb with e | e
          · exact hA2 b e
          · have := kn.size; omega
    · obtain rfl : i = l.length := by omega
      have fr2 := blk_free HBR.out 2
      go_wp2_with fail
      go_ret
      have hN' := hN.out
      have hY' := hY.out
      rw [List.take_length] at hN' hY'
      have hz : KeepZ (TR B) w wr := KeepZ.of hk
      unfold qlate
      rw [← hN', ← hY']
      have hf1 : ∀ b, (Value.slice A1 Y.length k1).ownBlock = some b → g ≠ b := fun b e => by
        obtain ⟨cur, hcur⟩ := own_blk ho1 e
        exact blk_ne HBR.out hcur (by decide)
      refine ⟨_, rfl, ⟨A1, k1, rfl, ownsRow_setCell_other ho1 (fun e => hf1 _ e rfl) _, hA1⟩, ⟨A2, k2, blk_set HBR.out 2 _, ?_, hg, fun b hb => ?_, hm, by show N.length ≤ 64; omega, HP.out⟩, hz.setCell HBR.out ⟨hg, .inl rfl⟩ _⟩
      · refine ownsRow_setCell_other ho2 (fun e => ?_) _
        obtain ⟨cur, hcur⟩ := own_blk ho2 e
        exact blk_ne HBR.out hcur (by decide) rfl
      · have := hA2 b hb; omega
end Go.Proofs.Ytimdaioojnohmaa
