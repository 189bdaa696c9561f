/-
  queue.New, Done and Late walked.
-/
import Derived.Test.YtimdaioojnohmaaQPart
namespace Go.Proofs.Ytimdaioojnohmaa
open Go.RowKit

theorem done1_any (x y id g : Nat) (w : World) (h : w.cell? ⟨g, 0, none⟩ = some (.int .u64 (id : Nat))) : Calls Try.prog 84 #[.agg #[.int .u64 x, .int .u64 y], .pointer (some ⟨g, 0, none⟩)] w fun e w' => e = .returned (.bool (x == id)) ∧ Keep No w w' := by
  have hg := World.block_lt_of_cell? w _ h
  have hgg : g < w.heap.size := hg
  clear hg
  by_cases he : x = id
  · have h1 : ((x : Int) == (id : Int)) = true := beq_iff_eq.2 (by omega)
    have HD := Lib.hid (beq_iff_eq.2 he)
    clear he
    go_enter Try.func84, Try.ntmps84
    go_wp2_with fail
    go_ret
    exact ⟨ret_bool HD.out.symm, (Keep.refl _ _).alloc _⟩
  · have h1 : ((x : Int) == (id : Int)) = false := beq_eq_false_iff_ne.2 (by omega)
    have HD := Lib.hid (beq_eq_false_iff_ne.2 he)
    clear he
    go_enter Try.func84, Try.ntmps84
    go_wp2_with fail
    go_ret
    exact ⟨ret_bool HD.out.symm, (Keep.refl _ _).alloc _⟩

theorem late1_any (x y now pat g1 g2 g : Nat) (w : World) (hnow : now < 18446744073709551616) (hy : y < 18446744073709551616) (h1 : w.cell? ⟨g1, 0, none⟩ = some (.int .u64 (now : Nat))) (h2 : w.cell? ⟨g2, 0, none⟩ = some (.pointer (some ⟨g, 0, none⟩)))
    (h3 : w.cell? ⟨g, 1, none⟩ = some (.int .u64 (pat : Nat))) : Calls Try.prog 82 #[.agg #[.int .u64 x, .int .u64 y], .pointer (some ⟨g1, 0, none⟩), .pointer (some ⟨g2, 0, none⟩)] w fun e w' => e = .returned (.bool (islate pat now (x, y))) ∧ Keep No w w' := by
  have hg1 : g1 < w.heap.size := World.block_lt_of_cell? w _ h1
  have hg2 : g2 < w.heap.size := World.block_lt_of_cell? w _ h2
  have hg3 : g < w.heap.size := World.block_lt_of_cell? w _ h3
  by_cases hle : y ≤ now
  · obtain ⟨d, hd⟩ : ∃ d, now - y = d := ⟨_, rfl⟩
    have hdi : (now : Int) - (y : Int) = (d : Nat) := by omega
    have hwd := IntWalk.u64_in (d : Int) (by omega)
    have hy1 : decide ((y : Int) ≤ (now : Int)) = true := by simp; omega
    have hy2 : decide (y ≤ now) = true := by simp; omega
    by_cases hp : pat ≤ d
    · have hp1 : decide ((pat : Int) ≤ (d : Int)) = true := by simp; omega
      have hp2 : decide (pat ≤ d) = true := by simp; omega
      have HL : Hid (islate pat now (x, y) = true) := by
        show _ = true
        unfold islate; rw [hd]; simp [hle, hp]
      clear hd hnow hy hle hp
      go_enter Try.func82, Try.ntmps82
      go_wp2_with fail
      go_big_quiet (fail)
      go_wp2_with fail
      go_ret
      exact ⟨ret_bool HL.out.symm, ((Keep.refl _ _).alloc _).drewN _⟩
    · have hp1 : decide ((pat : Int) ≤ (d : Int)) = false := by simp; omega
      have hp2 : decide (pat ≤ d) = false := by simp; omega
      have HL : Hid (islate pat now (x, y) = false) := by
        show _ = false
        unfold islate; rw [hd]; simp [hle]; omega
      clear hd hnow hy hle hp
      go_enter Try.func82, Try.ntmps82
      go_wp2_with fail
      go_big_quiet (fail)
      go_wp2_with fail
      go_ret
      exact ⟨ret_bool HL.out.symm, ((Keep.refl _ _).alloc _).drewN _⟩
  · have hy1 : decide ((y : Int) ≤ (now : Int)) = false := by simp; omega
    have hy2 : decide (y ≤ now) = false := by simp; omega
    have HL : Hid (islate pat now (x, y) = false) := by
      show _ = false
      unfold islate; simp [hle]
    clear hnow hy hle
    go_enter Try.func82, Try.ntmps82
    go_wp2_with fail
    go_big_quiet (fail)
    go_wp2_with fail
    go_ret
    exact ⟨ret_bool HL.out.symm, ((Keep.refl _ _).alloc _).drewN _⟩

theorem qdone_any (B g most pat id : Nat) (l : QL) (w : World) (h : QAt B w g most pat l) (h0 : 0 < most) (hBw : B ≤ w.heap.size) :
    Calls Try.prog 49 #[.pointer (some ⟨g, 0, none⟩), .int .u64 id] w fun e w' => e = .returned (.int .i64 ((qdone l id).1 : Nat)) ∧ QAt B w' g most pat (qdone l id).2 ∧ KeepZ (TQ B) w w' := by
  have k1 : Keep No w (w.alloc (.cells #[.int .u64 (id : Nat)] 29)) := (Keep.refl _ _).alloc _
  have hw1 := h.no k1
  have hid0 := (blk_cell (blk_at w (.cells #[.int .u64 (id : Nat)] 29) rfl) 0).trans rfl
  have hn := qnone_any B g most pat l _ hw1
  rw [decide_eq_false (by omega)] at hn
  have hh := qhas_any B g most pat id l _ hw1
  have HQ := Lib.hid hw1
  have HN := Lib.hid hn
  clear hn hw1
  unfold qdone
  by_cases hhas : qhas l id = true
  · rw [if_pos hhas]
    rw [hhas] at hh
    have HH := Lib.hid hh
    clear hh hhas h
    go_enter Try.func49, Try.ntmps49
    go_wp2_with fail
    refine HN.out.mono ?_
    rintro e w1 ⟨rfl, rfl⟩
    go_wp2_with fail
    refine HH.out.mono ?_
    rintro e w1 ⟨rfl, hk⟩
    have hq1 := HQ.out.no hk
    have HQ1 := Lib.hid hq1
    have hid1 := hk.cellSome hid0 (fun h => h)
    obtain ⟨A, k, hb, ho, hg, hA, hm, hl, hp⟩ := hq1
    have c2 := (blk_cell hb 2).trans rfl
    have hpart := part_done (.pointer (some ⟨w.heap.size, 0, none⟩)) (fun x => x.1 == id) _ l w1 (fun w' => w'.cell? ⟨w.heap.size, 0, none⟩ = some (.int .u64 (id : Nat))) (fun a b ha hk => hk.cellSome ha (fun h => h)) hid1 (Sl.of_own ho) (by omega)
      (fun x w' _ he => done1_any x.1 x.2 id w.heap.size w' he)
    have HP := Lib.hid hpart
    have HB := Lib.hid hb
    clear hpart hb ho hid0
    go_wp2_with fail
    refine HP.out.mono ?_
    rintro e w2 ⟨y, n, rfl, -, hn2, hk2⟩
    obtain ⟨A2, kk2, rfl, ho2, hA2⟩ := hn2
    have hb2 := hk2.blk HB.out (fun h => h)
    have fr2 := blk_free hb2 2
    have cc2 := (blk_cell hb2 2).trans rfl
    have HB2 := Lib.hid hb2
    clear hb2 c2
    go_wp2_with fail
    go_ret
    have hz : KeepZ (TQ B) w w2 := KeepZ.of ((k1.trans hk).trans hk2)
    have hkk := ((k1.trans hk)).size
    have hlf := List.length_filter_le (fun x : Nat × Nat => !(x.1 == id)) l
    refine ⟨rfl, ⟨A2, kk2, blk_set HB2.out 2 _, ?_, hg, fun b hb => ?_, hm, by omega, hp⟩, hz.setCell HB2.out ⟨hg, .inl rfl⟩ _⟩
    · refine ownsRow_setCell_other ho2 (fun e => ?_) _
      obtain ⟨cur, hcur⟩ := own_blk ho2 e
      exact blk_ne HB2.out hcur (by decide) rfl
    · have := hA2 b hb; omega
  · rw [if_neg hhas]
    rw [Bool.not_eq_true] at hhas
    rw [hhas] at hh
    have HH := Lib.hid hh
    clear hh hhas h
    go_enter Try.func49, Try.ntmps49
    go_wp2_with fail
    refine HN.out.mono ?_
    rintro e w1 ⟨rfl, rfl⟩
    go_wp2_with fail
    refine HH.out.mono ?_
    rintro e w1 ⟨rfl, hk⟩
    go_wp2_with fail
    go_ret
    exact ⟨rfl, HQ.out.no hk, KeepZ.of (k1.trans hk)⟩

theorem qlate_any (B g most pat now : Nat) (l : QL) (w : World) (h : QAt B w g most pat l) (h0 : 0 < most) (hBw : B ≤ w.heap.size) (hnow : now < 18446744073709551616) (hQB : QB l) :
    Calls Try.prog 42 #[.pointer (some ⟨g, 0, none⟩), .int .u64 now] w fun e w' => ∃ r, e = .returned r ∧ New64 w w' r (qlate pat l now).1 ∧ QAt B w' g most pat (qlate pat l now).2 ∧ KeepZ (TQ B) w w' := by
  have k1 : Keep No w ((w.alloc (.cells #[.pointer (some ⟨g, 0, none⟩)] 66)).alloc (.cells #[.int .u64 (now : Nat)] 29)) := ((Keep.refl _ _).alloc _).alloc _
  have hw1 := h.no k1
  have hq0 := (blk_cell (blk_old (blk_at w (.cells #[.pointer (some ⟨g, 0, none⟩)] 66) rfl) (.cells #[.int .u64 (now : Nat)] 29)) 0).trans rfl
  have hn0 := (blk_cell (blk_at (w.alloc (.cells #[.pointer (some ⟨g, 0, none⟩)] 66)) (.cells #[.int .u64 (now : Nat)] 29) (n := w.heap.size + 1) (by simp)) 0).trans rfl
  have hn := qnone_any B g most pat l _ hw1
  rw [decide_eq_false (by omega)] at hn
  have HN := Lib.hid hn
  have HQ := Lib.hid hw1
  have hgl : g < w.heap.size := by obtain ⟨A, k, hb, -⟩ := h; exact lt_of_block hb
  clear hn h
  obtain ⟨A, k, hb, ho, hg, hA, hm, hl, hp⟩ := hw1
  have c2 := (blk_cell hb 2).trans rfl
  have c1 := (blk_cell hb 1).trans rfl
  have hpart := part_late (.pointer (some ⟨w.heap.size + 1, 0, none⟩)) (.pointer (some ⟨w.heap.size, 0, none⟩)) (islate pat now) _ l _
    (fun w' => w'.cell? ⟨w.heap.size + 1, 0, none⟩ = some (.int .u64 (now : Nat)) ∧ w'.cell? ⟨w.heap.size, 0, none⟩ = some (.pointer (some ⟨g, 0, none⟩)) ∧ w'.cell? ⟨g, 1, none⟩ = some (.int .u64 (pat : Nat)))
    (fun a b ha hk => ⟨hk.cellSome ha.1 (fun h => h), hk.cellSome ha.2.1 (fun h => h), hk.cellSome ha.2.2 (fun h => h)⟩) ⟨hn0, hq0, c1⟩ (Sl.of_own ho) (by omega)
    (fun x w' hx he => late1_any x.1 x.2 now pat (w.heap.size + 1) w.heap.size g w' hnow (hQB x hx).2 he.1 he.2.1 he.2.2)
  have HP := Lib.hid hpart
  have HB := Lib.hid hb
  have H0 := Lib.hid hq0
  clear hpart hb ho hn0 hq0 c1 hnow hQB
  go_enter Try.func42, Try.ntmps42
  go_wp2_with fail
  refine HN.out.mono ?_
  rintro e w1 ⟨rfl, rfl⟩
  go_wp2_with fail
  refine HP.out.mono ?_
  rintro e w2 ⟨y, n, rfl, hy2, hn2, hk2⟩
  obtain ⟨A2, kk2, rfl, ho2, hA2⟩ := hn2
  have hb2 := hk2.blk HB.out (fun h => h)
  have fr2 := blk_free hb2 2
  have cc2 := (blk_cell hb2 2).trans rfl
  have q2 := hk2.cellSome H0.out (fun h => h)
  have HB2 := Lib.hid hb2
  have HY := Lib.hid hy2
  clear hb2 c2
  obtain ⟨A1, kk1, rfl, ho1, hA1⟩ := hy2
  have hne : ∀ b cur, w2.heap[b]? = some (.cells cur 160 (0, 0)) → b ≠ g := fun b cur hb e => by
    have := HB2.out
    subst e
    exact blk_ne hb this (by decide) rfl
  have hy3 : P64 (w2.setCell ⟨g, 2, none⟩ (.slice A2 (l.filter (fun x => !islate pat now x)).length kk2)) (.slice A1 (l.filter (islate pat now)).length kk1) (l.filter (islate pat now)) :=
    Sl.of_own (ownsRow_setCell_other ho1 (fun e => by obtain ⟨cur, hcur⟩ := own_blk ho1 e; exact hne _ _ hcur rfl) _)
  have hlf := List.length_filter_le (islate pat now) l
  have hlf2 := List.length_filter_le (fun x => !islate pat now x) l
  have hi := ids_any _ _ _ hy3 (by omega)
  have HI := Lib.hid hi
  have HO2 := Lib.hid ho2
  clear hi hy3 ho1 ho2
  have hgs : g < w2.heap.size := lt_of_block HB2.out
  go_wp2_with fail
  refine HI.out.mono ?_
  rintro e w3 ⟨r, rfl, hr3, hk3⟩
  go_wp2_with fail
  go_ret
  have hz : KeepZ (TQ B) w w2 := KeepZ.of (k1.trans hk2)
  have hs := (k1.trans hk2).size
  refine ⟨_, rfl, hr3.since (by simp; omega), QAt.no ⟨A2, kk2, blk_set HB2.out 2 _, ?_, hg, fun b hb => ?_, hm, by show List.length (List.filter _ _) ≤ _; omega, hp⟩ hk3, (hz.setCell HB2.out ⟨hg, .inl rfl⟩ _).then hk3⟩
  · refine ownsRow_setCell_other HO2.out (fun e => ?_) _
    obtain ⟨cur, hcur⟩ := own_blk HO2.out e
    exact hne _ _ hcur rfl
  · have := hA2 b hb
    have := k1.size
    omega

theorem qnew_bad (most : Int) (pat : Nat) (w : World) (h : most < 1 ∨ 64 < most ∨ pat = 0) (h1 : -9223372036854775808 ≤ most) (h2 : most ≤ 9223372036854775807) : Calls Try.prog 41 #[.int .i64 most, .int .u64 pat] w fun e w' => e = .returned (.pointer none) ∧ w = w' := by
  by_cases a1 : most < 1
  · go_enter Try.func41, Try.ntmps41
    go_wp2_with fail
    go_ret
    exact ⟨rfl, rfl⟩
  by_cases a2 : 64 < most
  · go_enter Try.func41, Try.ntmps41
    go_wp2_with fail
    go_ret
    exact ⟨rfl, rfl⟩
  · obtain rfl : pat = 0 := by omega
    go_enter Try.func41, Try.ntmps41
    go_wp2_with fail
    go_ret
    exact ⟨rfl, rfl⟩
theorem qnew_any (most pat : Nat) (w : World) (h1 : 0 < most) (h2 : most ≤ 64) (h3 : 0 < pat) (h4 : pat < 18446744073709551616) : Calls Try.prog 41 #[.int .i64 most, .int .u64 pat] w fun e w' =>
    e = .returned (.pointer (some ⟨w.heap.size, 0, none⟩)) ∧ QAt w.heap.size w' w.heap.size most pat [] ∧ w' = w.alloc (.cells #[.int .i64 most, .int .u64 pat, .slice none 0 0] 116) := by
  have hz : ((pat : Int) == 0) = false := beq_eq_false_iff_ne.2 (by omega)
  have a1 : ¬ (most : Int) < 1 := by omega
  have a2 : ¬ (64 : Int) < most := by omega
  have H4 := Lib.hid h4
  clear h4
  go_enter Try.func41, Try.ntmps41
  go_wp2_with fail
  go_ret
  exact ⟨rfl, ⟨none, 0, blk_at _ _ rfl, World.ownsRow_nil _ _ _ _, Nat.le_refl _, fun b hb => by simp [Value.ownBlock] at hb, h2, by simp, H4.out⟩, rfl⟩
end Go.Proofs.Ytimdaioojnohmaa
