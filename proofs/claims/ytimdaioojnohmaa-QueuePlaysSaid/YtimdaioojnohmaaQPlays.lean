/-
  The law QueuePlays walked.
-/
import Derived.Test.YtimdaioojnohmaaQTwo
import Derived.Deep.DeepCutAuto
namespace Go.Proofs.Ytimdaioojnohmaa
open Go.RowKit

theorem Rd.op {w : World} {v : Value} {l : List OpL} (h : Rd w v l.length (l.flatMap opcells)) (i : Nat) (hi : i < l.length) : ∃ b o c, v = .slice (some ⟨b, o, none⟩) l.length c ∧ l.length ≤ c ∧
    w.cell? ⟨b, o + i * 3, none⟩ = some (.int .i64 l[i].1) ∧ w.cell? ⟨b, o + i * 3 + 1, none⟩ = some (.int .u64 l[i].2.1) ∧ w.cell? ⟨b, o + i * 3 + 2, none⟩ = some (.int .u64 l[i].2.2) := by
  obtain ⟨A, c, rfl, hc, hx⟩ := h
  have g := fun j (hj : j < 3) => flat_get opcells 3 opcells_len l i j hi hj
  obtain ⟨b, o, rfl, h0⟩ := hx _ _ ((g 0 (by decide)).trans rfl)
  obtain ⟨b1, o1, e1, h1⟩ := hx _ _ ((g 1 (by decide)).trans rfl)
  obtain ⟨b2, o2, e2, h2⟩ := hx _ _ ((g 2 (by decide)).trans rfl)
  cases e1
  cases e2
  exact ⟨b, o, c, rfl, hc, h0, h1, h2⟩

set_option maxRecDepth 100000 in
set_option maxHeartbeats 4000000 in
theorem queuePlays_any (a : Int) (n : Nat) (v : Value) (l : List OpL) (x : Nat) (w : World) (ha : -9223372036854775808 ≤ a ∧ a ≤ 9223372036854775807) (hn : n < 18446744073709551616) (h : Rd w v l.length (l.flatMap opcells)) (hok : ∀ p ∈ l, OpOk p) :
    Calls Try.prog 10 #[.int .i64 a, .int .u64 n, v, .int .u64 x] w fun e w' => e = .returned (.bool true) ∧ Keep No w w' := by
  obtain ⟨A, c, rfl, hlc, -⟩ := id h
  have H := Lib.hid h
  have HOK := Lib.hid hok
  clear h hok
  by_cases h2 : 200 < l.length
  · have hd : decide ((200 : Int) < (l.length : Int)) = true := by simp; omega
    have HL := Lib.hid (lives38_any w)
    clear ha hn
    go_enter Try.func10, Try.ntmps10
    go_wp2_with fail
    refine HL.out.mono ?_
    rintro e w1 ⟨rfl, k1⟩
    go_wp2_with fail
    go_ret
    exact ⟨rfl, k1⟩
  by_cases hbad : a < 1 ∨ 64 < a ∨ n = 0
  · have HN := Lib.hid (qnew_bad a n w hbad ha.1 ha.2)
    have HR := Lib.hid (rnew_bad a n w hbad)
    clear ha hn hbad
    go_enter Try.func10, Try.ntmps10
    go_wp2_with fail
    refine HN.out.mono ?_
    rintro e w1 ⟨rfl, rfl⟩
    go_wp2_with fail
    refine HR.out.mono ?_
    rintro e w1 ⟨p, rfl, k1⟩
    have HL := Lib.hid (lives38_any w1)
    go_wp2_with fail
    refine HL.out.mono ?_
    rintro e w2 ⟨rfl, k2⟩
    go_wp2_with fail
    go_ret
    exact ⟨rfl, k1.trans k2⟩
  obtain ⟨most, rfl⟩ := Int.eq_ofNat_of_zero_le (show 0 ≤ a by omega)
  have hm0 : 0 < most := by omega
  have hm1 : most ≤ 64 := by omega
  have HN := Lib.hid (qnew_any most n w hm0 hm1 (by omega) hn)
  have HR := Lib.hid (fun W => rnew_any most n W hm0 hm1 (by omega) hn)
  clear ha hn hbad
  have HM := Lib.hid hm0
  clear hm0 hm1
  go_enter Try.func10, Try.ntmps10
  go_wp2_with fail
  refine HN.out.mono ?_
  rintro e w1 ⟨rfl, hq, hw1⟩
  have hs1 : w1.heap.size = w.heap.size + 1 := by rw [hw1, World.size_alloc]
  have k1 : Keep No w w1 := by rw [hw1]; exact (Keep.refl _ _).alloc _
  clear hw1
  go_wp2_with fail
  refine (HR.out _).mono ?_
  rintro e w2 ⟨rfl, hr, hw2⟩
  have k2 : Keep No w1 w2 := by rw [hw2]; exact (Keep.refl _ _).alloc _
  clear hw2
  rw [hs1] at hr
  have hr := hr.base (Nat.le_succ _)
  have hq := hq.no k2
  have k12 : KeepZ (TQR w.heap.size) w w2 := KeepZ.of (k1.trans k2)
  have HQ := Lib.hid hq
  have HRR := Lib.hid hr
  clear hq hr HN HR
  rw [hs1]
  go_wp2_with fail
  go_loopw [46] (fun iv wr => ∃ i q, i ≤ l.length ∧ iv = .int .i64 (i : Nat) ∧ Hid (QB q) ∧ Hid (QAt w.heap.size wr w.heap.size most n q) ∧ Hid (RAt w.heap.size wr (w.heap.size + 1) most n q) ∧ KeepZ (TQR w.heap.size) w wr) (fun iv _ => l.length - (intOf iv).toNat)
  case atStart => exact ⟨0, [], Nat.zero_le _, rfl, (show QB [] from fun x hx => by simp at hx), HQ, HRR, k12⟩
  case round =>
    obtain ⟨i, q, hi, rfl, hqb, hq, hr, hk⟩ := hrel
    by_cases hlt : i < l.length
    · obtain ⟨b, o, c', hv, hc', hc0, hc1, hc2⟩ := (H.out.keep (hk.no (fun k s h => h.1))).op i hlt
      injection hv with hA _ hcc
      subst hA hcc
      have hopk := HOK.out l[i] (List.getElem_mem hlt)
      generalize l[i] = op at *
      obtain ⟨kd, id, now⟩ := op
      obtain ⟨-, -, hid1, hnow1⟩ := hopk
      have hid2 : id < 18446744073709551616 := hid1
      have hnow2 : now < 18446744073709551616 := hnow1
      have HID := Lib.hid hid2
      have HNOW := Lib.hid hnow2
      clear hid1 hid2 hnow1 hnow2
      have hc0 : wr.cell? ⟨b, o + i * 3, none⟩ = some (.int .i64 kd) := hc0
      have hc1 : wr.cell? ⟨b, o + i * 3 + 1, none⟩ = some (.int .u64 (id : Nat)) := hc1
      have hc2 : wr.cell? ⟨b, o + i * 3 + 2, none⟩ = some (.int .u64 (now : Nat)) := hc2
      have ka : Keep No wr (wr.alloc (.cells #[.int .i64 kd, .int .u64 (id : Nat), .int .u64 (now : Nat)] 93)) := (Keep.refl _ _).alloc _
      have hj0 : Two w w.heap.size (w.heap.size + 1) most n wr.heap.size (kd, id, now) q q (wr.alloc (.cells #[.int .i64 kd, .int .u64 (id : Nat), .int .u64 (now : Nat)] 93)) :=
        ⟨hq.out.no ka, hr.out.no ka, hk.then ka, blk_at _ _ rfl⟩
      generalize hW0 : wr.alloc (.cells #[.int .i64 kd, .int .u64 (id : Nat), .int .u64 (now : Nat)] 93) = W0 at hj0
      have HW0 := Lib.hid hW0
      have HJ0 := Lib.hid hj0
      have hszw : wr.heap.size < W0.heap.size := by rw [← hW0, World.size_alloc]; omega
      clear hj0 ka hr hq hW0
      by_cases kd0 : kd = 0
      case' pos =>
        subst kd0
        have HB' : Hid (QB (qput most q id now).2) := hqb.out.put HID.out HNOW.out
        have p0 : Hid (Calls Try.prog 44 #[.pointer (some ⟨w.heap.size, 0, none⟩), .int .u64 (id : Nat), .int .u64 (now : Nat)] W0.drew fun e W' =>
          e = .returned (.int .i64 ((qput most q id now).1 : Nat)) ∧ Two w w.heap.size (w.heap.size + 1) most n wr.heap.size (0, id, now) (qput most q id now).2 q W') := two_put HM.out q q _ HJ0.out.drew
        have p1 : Hid (∀ W, Two w w.heap.size (w.heap.size + 1) most n wr.heap.size (0, id, now) q (qput most q id now).2 W → Calls Try.prog 44 #[.pointer (some ⟨w.heap.size, 0, none⟩), .int .u64 (id : Nat), .int .u64 (now : Nat)] W fun e W' =>
          e = .returned (.int .i64 ((qput most q id now).1 : Nat)) ∧ Two w w.heap.size (w.heap.size + 1) most n wr.heap.size (0, id, now) (qput most q id now).2 (qput most q id now).2 W') := fun W hj => two_put HM.out q _ W hj
        have r0 : Hid (Calls Try.prog 48 #[.pointer (some ⟨w.heap.size + 1, 0, none⟩), .int .u64 (id : Nat), .int .u64 (now : Nat)] W0.drew fun e W' =>
          e = .returned (.int .i64 ((qput most q id now).1 : Nat)) ∧ Two w w.heap.size (w.heap.size + 1) most n wr.heap.size (0, id, now) q (qput most q id now).2 W') := two_rput q q _ HJ0.out.drew
        have r1 : Hid (∀ W, Two w w.heap.size (w.heap.size + 1) most n wr.heap.size (0, id, now) (qput most q id now).2 q W → Calls Try.prog 48 #[.pointer (some ⟨w.heap.size + 1, 0, none⟩), .int .u64 (id : Nat), .int .u64 (now : Nat)] W fun e W' =>
          e = .returned (.int .i64 ((qput most q id now).1 : Nat)) ∧ Two w w.heap.size (w.heap.size + 1) most n wr.heap.size (0, id, now) (qput most q id now).2 (qput most q id now).2 W') := fun W hj => two_rput _ q W hj
        have c0 : W0.cell? ⟨wr.heap.size, 0, none⟩ = some (.int .i64 0) := HJ0.out.c0
        have c1 : W0.cell? ⟨wr.heap.size, 1, none⟩ = some (.int .u64 (id : Nat)) := HJ0.out.c1
        have c2 : W0.cell? ⟨wr.heap.size, 2, none⟩ = some (.int .u64 (now : Nat)) := HJ0.out.c2
        generalize qput most q id now = qn at *
        go_upto_region 14 with fail
        rw [HW0.out]
        go_region_held3 (fun W' => W'.cell? ⟨wr.heap.size, 1, none⟩ = some (.int .u64 (id : Nat)) ∧ W'.cell? ⟨wr.heap.size, 2, none⟩ = some (.int .u64 (now : Nat))) (first | exact ⟨c1, c2⟩ | exact ⟨d1, d2⟩ | exact ⟨f1, f2⟩)
          (first
            | (go_at_call 44; refine p0.out.mono ?_; rintro e W1 ⟨rfl, hj1⟩; have d1 : W1.cell? ⟨wr.heap.size, 1, none⟩ = some (.int .u64 (id : Nat)) := hj1.c1; have d2 : W1.cell? ⟨wr.heap.size, 2, none⟩ = some (.int .u64 (now : Nat)) := hj1.c2)
            | (go_at_call 48; refine r0.out.mono ?_; rintro e W1 ⟨rfl, hj1⟩; have d1 : W1.cell? ⟨wr.heap.size, 1, none⟩ = some (.int .u64 (id : Nat)) := hj1.c1; have d2 : W1.cell? ⟨wr.heap.size, 2, none⟩ = some (.int .u64 (now : Nat)) := hj1.c2)
            | (go_at_call 44; refine (p1.out _ hj1).mono ?_; rintro e W2 ⟨rfl, hj2⟩; have f1 : W2.cell? ⟨wr.heap.size, 1, none⟩ = some (.int .u64 (id : Nat)) := hj2.c1; have f2 : W2.cell? ⟨wr.heap.size, 2, none⟩ = some (.int .u64 (now : Nat)) := hj2.c2)
            | (go_at_call 48; refine (r1.out _ hj1).mono ?_; rintro e W2 ⟨rfl, hj2⟩; have f1 : W2.cell? ⟨wr.heap.size, 1, none⟩ = some (.int .u64 (id : Nat)) := hj2.c1; have f2 : W2.cell? ⟨wr.heap.size, 2, none⟩ = some (.int .u64 (now : Nat)) := hj2.c2))
        obtain ⟨ql, hql, hjj⟩ : ∃ ql, Hid (QB ql) ∧ Two w w.heap.size (w.heap.size + 1) most n wr.heap.size (0, id, now) ql ql W2 := ⟨_, HB', hj2⟩
        clear hj1 hj2 HB' p0 p1 r0 r1 c0 c1 c2 d1 d2 f1 f2 HW0 HJ0
      case' neg =>
        by_cases kd1 : kd = 1
        case' pos =>
          subst kd1
          have HB' : Hid (QB (qdone q id).2) := hqb.out.done
          have p0 : Hid (Calls Try.prog 49 #[.pointer (some ⟨w.heap.size, 0, none⟩), .int .u64 (id : Nat)] W0.drew fun e W' =>
            e = .returned (.int .i64 ((qdone q id).1 : Nat)) ∧ Two w w.heap.size (w.heap.size + 1) most n wr.heap.size (1, id, now) (qdone q id).2 q W') := two_done HM.out q q _ HJ0.out.drew
          have p1 : Hid (∀ W, Two w w.heap.size (w.heap.size + 1) most n wr.heap.size (1, id, now) q (qdone q id).2 W → Calls Try.prog 49 #[.pointer (some ⟨w.heap.size, 0, none⟩), .int .u64 (id : Nat)] W fun e W' =>
            e = .returned (.int .i64 ((qdone q id).1 : Nat)) ∧ Two w w.heap.size (w.heap.size + 1) most n wr.heap.size (1, id, now) (qdone q id).2 (qdone q id).2 W') := fun W hj => two_done HM.out q _ W hj
          have r0 : Hid (Calls Try.prog 50 #[.pointer (some ⟨w.heap.size + 1, 0, none⟩), .int .u64 (id : Nat)] W0.drew fun e W' =>
            e = .returned (.int .i64 ((qdone q id).1 : Nat)) ∧ Two w w.heap.size (w.heap.size + 1) most n wr.heap.size (1, id, now) q (qdone q id).2 W') := two_rdone q q _ HJ0.out.drew
          have r1 : Hid (∀ W, Two w w.heap.size (w.heap.size + 1) most n wr.heap.size (1, id, now) (qdone q id).2 q W → Calls Try.prog 50 #[.pointer (some ⟨w.heap.size + 1, 0, none⟩), .int .u64 (id : Nat)] W fun e W' =>
            e = .returned (.int .i64 ((qdone q id).1 : Nat)) ∧ Two w w.heap.size (w.heap.size + 1) most n wr.heap.size (1, id, now) (qdone q id).2 (qdone q id).2 W') := fun W hj => two_rdone _ q W hj
          have c0 : W0.cell? ⟨wr.heap.size, 0, none⟩ = some (.int .i64 1) := HJ0.out.c0
          have c1 : W0.cell? ⟨wr.heap.size, 1, none⟩ = some (.int .u64 (id : Nat)) := HJ0.out.c1
          have c2 : W0.cell? ⟨wr.heap.size, 2, none⟩ = some (.int .u64 (now : Nat)) := HJ0.out.c2
          generalize qdone q id = qn at *
          go_upto_region 16 with fail
          rw [HW0.out]
          go_region_held3 (fun W' => W'.cell? ⟨wr.heap.size, 1, none⟩ = some (.int .u64 (id : Nat))) (first | exact c1 | exact d1 | exact f1)
            (first
              | (go_at_call 49; refine p0.out.mono ?_; rintro e W1 ⟨rfl, hj1⟩; have d1 : W1.cell? ⟨wr.heap.size, 1, none⟩ = some (.int .u64 (id : Nat)) := hj1.c1)
              | (go_at_call 50; refine r0.out.mono ?_; rintro e W1 ⟨rfl, hj1⟩; have d1 : W1.cell? ⟨wr.heap.size, 1, none⟩ = some (.int .u64 (id : Nat)) := hj1.c1)
              | (go_at_call 49; refine (p1.out _ hj1).mono ?_; rintro e W2 ⟨rfl, hj2⟩; have f1 : W2.cell? ⟨wr.heap.size, 1, none⟩ = some (.int .u64 (id : Nat)) := hj2.c1)
              | (go_at_call 50; refine (r1.out _ hj1).mono ?_; rintro e W2 ⟨rfl, hj2⟩; have f1 : W2.cell? ⟨wr.heap.size, 1, none⟩ = some (.int .u64 (id : Nat)) := hj2.c1))
          obtain ⟨ql, hql, hjj⟩ : ∃ ql, Hid (QB ql) ∧ Two w w.heap.size (w.heap.size + 1) most n wr.heap.size (1, id, now) ql ql W2 := ⟨_, HB', hj2⟩
          clear hj1 hj2 HB' p0 p1 r0 r1 c0 c1 c2 d1 f1 HW0 HJ0
        case' neg =>
          have HB' : Hid (QB (qlate n q now).2) := hqb.out.filter _
          have hlen : (qlate n q now).1.length ≤ 64 := by
            obtain ⟨_, _, _, _, _, _, _, hl, _⟩ := HJ0.out.q
            unfold qlate
            simp only [List.length_map]
            exact Nat.le_trans (List.length_filter_le _ _) hl
          have p0 : Hid (Calls Try.prog 42 #[.pointer (some ⟨w.heap.size, 0, none⟩), .int .u64 (now : Nat)] W0.drew fun e W' =>
            ∃ y, e = .returned y ∧ New64 w W' y (qlate n q now).1 ∧ Two w w.heap.size (w.heap.size + 1) most n wr.heap.size (kd, id, now) (qlate n q now).2 q W' ∧ KeepZ (TQR w.heap.size) W0.drew W') := two_late HM.out q q _ HJ0.out.drew HNOW.out hqb.out
          have r1 : Hid (∀ W, Two w w.heap.size (w.heap.size + 1) most n wr.heap.size (kd, id, now) (qlate n q now).2 q W → Calls Try.prog 52 #[.pointer (some ⟨w.heap.size + 1, 0, none⟩), .int .u64 (now : Nat)] W fun e W' =>
            ∃ y, e = .returned y ∧ New64 w W' y (qlate n q now).1 ∧ Two w w.heap.size (w.heap.size + 1) most n wr.heap.size (kd, id, now) (qlate n q now).2 (qlate n q now).2 W' ∧ KeepZ (TQR w.heap.size) W W') := fun W hj => two_rlate _ q W hj HNOW.out
          have c0 : W0.cell? ⟨wr.heap.size, 0, none⟩ = some (.int .i64 kd) := HJ0.out.c0
          have c2 : W0.cell? ⟨wr.heap.size, 2, none⟩ = some (.int .u64 (now : Nat)) := HJ0.out.c2
          generalize qlate n q now = qn at *
          go_upto_region 12 with fail
          rw [HW0.out]
          go_region_held3 (fun W' => W'.cell? ⟨wr.heap.size, 2, none⟩ = some (.int .u64 (now : Nat))) (first | exact c2 | exact d2 | exact f2)
            (first
              | (go_at_call 42; refine p0.out.mono ?_; rintro e W1 ⟨y1, rfl, hy1, hj1, hz1⟩; have d2 : W1.cell? ⟨wr.heap.size, 2, none⟩ = some (.int .u64 (now : Nat)) := hj1.c2)
              | (go_at_call 52; refine (r1.out _ hj1).mono ?_; rintro e W2a ⟨y2, rfl, hy2, hj2, hz2⟩; have hy12 := new_keepZ hy1 hz2; have f2 : W2a.cell? ⟨wr.heap.size, 2, none⟩ = some (.int .u64 (now : Nat)) := hj2.c2)
              | (go_at_call 51; refine (ints_same y1 y2 _ _ hy12.n64 hy2.n64 (by omega)).mono ?_; rintro e W3 ⟨rfl, nn, rfl⟩))
          obtain ⟨ql, W2, hW3, hql, hjj⟩ : ∃ ql W2, W2 = W2a.drewN nn ∧ Hid (QB ql) ∧ Two w w.heap.size (w.heap.size + 1) most n wr.heap.size (kd, id, now) ql ql W2 := ⟨_, _, rfl, HB', hj2.no ((Keep.refl _ _).drewN nn)⟩
          rw [← hW3]
          clear hj1 hj2 HB' p0 r1 c0 c2 d2 f2 HW0 HJ0 hy1 hy2 hy12 hz1 hz2 hlen hW3
      all_goals
        have HJ := Lib.hid hjj
        obtain ⟨A3, k3, hb3, ho3, -, -, -, hl3, -⟩ := hjj.r
        have e2 := (blk_cell hb3 2).trans rfl
        have HP3 := Lib.hid (show P64 W2 (.slice A3 ql.length k3) ql from Sl.of_own ho3)
        clear hb3 ho3 hjj
        go_wp2_with fail
        go_loopw [15, 92] (fun ov iv W3 => ∃ j A4 k4, j ≤ ql.length ∧ iv = .int .i64 (j : Nat) ∧ ov = .slice A4 ((ql.take j).map (·.1)).length k4 ∧
          W3.ownsRow 0 29 1 (.slice A4 ((ql.take j).map (·.1)).length k4) ((ql.take j).map (·.1)).length (((ql.take j).map (·.1)).map u64v) ∧ (∀ b, (Value.slice A4 ((ql.take j).map (·.1)).length k4).ownBlock = some b → W2.heap.size ≤ b) ∧ Keep No W2 W3) (fun _ iv _ => ql.length - (intOf iv).toNat)
        case atStart => exact ⟨0, none, 0, Nat.zero_le _, rfl, rfl, World.ownsRow_nil _ _ _ _, fun b hb => by simp [Value.ownBlock] at hb, Keep.refl _ _⟩
        case round =>
          obtain ⟨j, A4, k4, hj, rfl, rfl, ho4, hA4, hk4⟩ := hrel
          have hlen4 : ((ql.take j).map (·.1)).length ≤ ql.length := by simp; omega
          by_cases hlt4 : j < ql.length
          · obtain ⟨b4, o4, c4, hv4, hc4, hx1, hx2⟩ := (HP3.out.keep hk4).at_ j hlt4
            injection hv4 with hAA _ hcc
            subst hAA hcc
            have htk : (ql.take (j + 1)).map (·.1) = (ql.take j).map (·.1) ++ [ql[j].1] := by rw [List.take_succ_eq_append_getElem hlt4, List.map_append]; rfl
            have HT := Lib.hid htk
            clear htk
            generalize hL : (ql.take j).map (·.1) = L at *
            have HLL := Lib.hid hL
            clear hL
            generalize ql[j].1 = x1 at *
            generalize ql[j].2 = x2 at *
            have hwn : ((wr.alloc (.cells #[.int .u64 (x1 : Nat), .int .u64 (x2 : Nat)] 111)).alloc (.cells #[.int .u64 (x1 : Nat)] 29)).ownsRow 0 29 1 (.slice A4 L.length k4) L.length (L.map u64v) := (ho4.alloc _).alloc _
            have hso : Sl ((wr.alloc (.cells #[.int .u64 (x1 : Nat), .int .u64 (x2 : Nat)] 111)).alloc (.cells #[.int .u64 (x1 : Nat)] 29)) (.slice (some ⟨(wr.alloc (.cells #[.int .u64 (x1 : Nat), .int .u64 (x2 : Nat)] 111)).heap.size, 0, none⟩) 1 1) 1 ([x1].map u64v) := Sl.lit _ _ 29 1
            have hone := u64v_one [x1]
            have h63 : L.length + 1 ≤ maxLen := by simp only [maxLen]; omega
            have kn : Keep No W2 ((wr.alloc (.cells #[.int .u64 (x1 : Nat), .int .u64 (x2 : Nat)] 111)).alloc (.cells #[.int .u64 (x1 : Nat)] 29)) := (hk4.alloc _).alloc _
            rw [World.size_alloc] at hso
            go_wp2_with (at_builtin; refine wpList_app rfl _ _ 41 rfl 29 _ 1 8 Try.underlying41 Try.info29 rfl (by decide) _ L.length _ hwn rfl _ 1 ([x1].map u64v) hso rfl rfl hone (by omega) h63 ?_; intro A' k' w' ho' hk' hn')
            refine ⟨⟨j + 1, A', k', by omega, by simp, by rw [HT.out]; simp, ?_, ?_, kn.fresh hk' hA4⟩, by simp [intOf]; omega⟩
            · rw [HT.out, List.length_append, List.map_append]; exact ho'
            · intro b hb
              rw [HT.out, List.length_append] at hb
              rcases hn' b hb with e | e
              · exact hA4 b e
              · have := kn.size; omega
          · obtain rfl : j = ql.length := by omega
            rw [List.take_length, List.length_map] at ho4 hA4 ⊢
            have hn4 : N64 wr (.slice A4 ql.length k4) (ql.map (·.1)) := by unfold N64; rw [List.length_map]; exact Sl.of_own ho4
            have hj3 := HJ.out.no hk4
            have hal := qall_any _ _ most n ql wr hj3.q
            have HN4 := Lib.hid hn4
            have HJ3 := Lib.hid hj3
            have HAL := Lib.hid hal
            clear hn4 hj3 hal ho4 hA4
            go_wp2_with fail
            refine HAL.out.mono ?_
            rintro e W4 ⟨y4, rfl, hy4, k4'⟩
            have hin := ints_same y4 _ _ W4 hy4.n64 (HN4.out.keep k4') (by rw [List.length_map]; omega)
            obtain ⟨A5, k5, rfl, -⟩ := hy4
            simp only [List.length_map] at hin ⊢
            have HIN := Lib.hid hin
            clear hin
            go_wp2_with fail
            refine HIN.out.mono ?_
            rintro e W5 ⟨rfl, n5, rfl⟩
            have k5' : Keep No wr (W4.drewN n5) := k4'.drewN n5
            generalize W4.drewN n5 = W5 at *
            have hle := Lib.hid (qlen_any _ _ most n ql W5 (HJ3.out.no k5').q)
            go_wp2_with fail
            refine hle.out.mono ?_
            rintro e W6 ⟨rfl, k6⟩
            have k6' := k5'.trans k6
            have hha := Lib.hid (qhas_any _ _ most n x ql W6 (HJ3.out.no k6').q)
            go_wp2_with fail
            refine hha.out.mono ?_
            rintro e W7 ⟨rfl, k7⟩
            have k7' := k6'.trans k7
            have hrh := Lib.hid (rhas_any _ _ most n x ql W7 (HJ3.out.no k7').r)
            go_wp2_with fail
            refine hrh.out.mono ?_
            rintro e W8 ⟨rfl, rfl⟩
            have hj8 := HJ3.out.no k7'
            have Hq8 := Lib.hid hj8.q
            have Hr8 := Lib.hid hj8.r
            have Hk8 := hj8.k
            clear hj8
            go_wp2_with fail
            exact ⟨⟨i + 1, ql, by omega, by simp, hql, Hq8, Hr8, Hk8⟩, by simp [intOf]; omega⟩
    · have HL := Lib.hid (lives38_any wr)
      go_wp2_with fail
      refine HL.out.mono ?_
      rintro e w3 ⟨rfl, k3⟩
      go_wp2_with fail
      go_ret
      exact ⟨rfl, (hk.then k3).no (fun k s h => h.1)⟩
end Go.Proofs.Ytimdaioojnohmaa
