/-
  The law DiskPlays walked.
-/
import Derived.Test.YtimdaioojnohmaaMDDo
import Derived.Test.YtimdaioojnohmaaMDFlLaw
namespace Go.Proofs.Ytimdaioojnohmaa
open Go.RowKit Go.Maps

theorem dopen_few (D : DD) (h : DI D) (few : D.ts.length ≤ 4096) : (dopen D).length ≤ 1073741824 := by
  rw [dopen_out]
  have h1 := outOf_len D.ts (fun i => (h.tok i).few) (dwaitOf D.ts (fun _ => true))
  have h2 := dwait_len D.ts (fun _ => true)
  omega
section
variable {X : Nat → Prop} {B : Nat} {w w' : World} {g r : Nat} {D : DD}
theorem bo_open (h : Bo X B w g r D D) (few : D.ts.length ≤ 4096) : Calls Try.prog 25 #[.pointer (some ⟨g, 0, none⟩)] w fun e w' => ∃ v, e = .returned v ∧ NAsk w' v (dopen D) ∧ Keep No w w' :=
  (dopen_any B _ g D w h.d h.i.per.1 (by omega) h.i.sm).mono fun _ _ ⟨v, he, hv, hk⟩ => ⟨v, he, hv.ask, hk⟩
theorem bo_ropen (h : Bo X B w g r D D) (few : D.ts.length ≤ 4096) : Calls Try.prog 26 #[.pointer (some ⟨r, 0, none⟩)] w fun e w' => ∃ v, e = .returned v ∧ NAsk w' v (dopen D) ∧ Keep No w w' := by
  obtain ⟨qb, C, T, vs, lo, hr⟩ := h.r
  exact ropen_any hr (by omega) h.i.sm
theorem bo_blocks (h : Bo X B w g r D D) : Calls Try.prog 27 #[.pointer (some ⟨g, 0, none⟩)] w fun e w' => e = .returned (.int .u32 (D.blocks : Nat)) ∧ w = w' := by
  obtain ⟨cs, hcs, -, hc2, -⟩ := h.d.disk
  exact dblocks_at g _ w ((blk_cell hcs 2).trans hc2)
theorem bo_tasks (h : Bo X B w g r D D) : Calls Try.prog 28 #[.pointer (some ⟨g, 0, none⟩)] w fun e w' => e = .returned (.int .u64 (D.ts.length : Nat)) ∧ w = w' :=
  dtasks_at g _ w h.d.last
theorem bo_state (id : Nat) (h : Bo X B w g r D D) (hid : id < 18446744073709551616) : Calls Try.prog 29 #[.pointer (some ⟨g, 0, none⟩), .int .u64 (id : Nat)] w fun e w' => e = .returned (.tuple #[.int .i64 ((dstate D id).1 : Nat), .string (dstate D id).2]) ∧ Keep No w w' :=
  dstate_any B _ g id D w h.d h.i.per.1 hid h.i.sm
theorem bo_rstate (id : Nat) (h : Bo X B w g r D D) (few : D.ts.length ≤ 4096) (hid : id < 18446744073709551616) : Calls Try.prog 30 #[.pointer (some ⟨r, 0, none⟩), .int .u64 (id : Nat)] w fun e w' => e = .returned (.tuple #[.int .i64 ((dstate D id).1 : Nat), .string (dstate D id).2]) ∧ Keep No w w' := by
  obtain ⟨qb, C, T, vs, lo, hr⟩ := h.r
  exact rstate_any id hr (by omega) hid h.i.sm
theorem bo_cells (h : Bo X B w g r D D) : w.cell? ⟨r, 1, none⟩ = some (.int .u32 (D.blocks : Nat)) ∧ ∃ A k, w.cell? ⟨r, 4, none⟩ = some (.slice A D.ts.length k) := by
  obtain ⟨qb, C, T, vs, lo, hr⟩ := h.r
  obtain ⟨A, k, rfl, -, -⟩ := hr.t
  exact ⟨hr.cells.2.1, A, k, hr.cells.2.2.2.2⟩
theorem bo_new (per blocks n most : Nat) (l : List Nat) (w1 w2 w3 : World) (g r qb : Nat) (C : Value) (X : Nat → Prop) (vs : Nat → RV) (lo : Nat → Nat) (hf : dfit per blocks l.length = true) (hb : blocks < 4294967296) (hl : l.length ≤ 1048576) (hk12 : Keep No w1 w2) (hk23 : Keep No w2 w3)
    (hd : DAt (fun _ => False) w1.heap.size w2.heap.size w2 g ⟨per, blocks, l, most, n, [], []⟩) (hr : RD X w2.heap.size w3.heap.size w3 r ⟨per, blocks, l, most, n, [], []⟩ qb C (.slice none 0 0) vs lo) (hX : ∀ k, X k → w2.heap.size ≤ k ∧ k < w3.heap.size) :
    Bo X w1.heap.size w3 g r ⟨per, blocks, l, most, n, [], []⟩ ⟨per, blocks, l, most, n, [], []⟩ :=
  ⟨(hd.widen (fun k hx => .inr (hX k hx).1)).top hk23, ⟨qb, C, _, vs, lo, hr.lower hk12.size⟩, DI.new per blocks most n l hf hb hl, fun k hx => ⟨Nat.le_trans hk12.size (hX k hx).1, (hX k hx).2⟩⟩
end
set_option maxRecDepth 100000 in
set_option maxHeartbeats 40000000 in
theorem diskPlays_any (per blocks : Nat) (a : Int) (n : Nat) (v2 v5 : Value) (l2 : List Nat) (l : List DOp) (w : World) (hp : per < 4294967296) (hb : blocks < 4294967296) (h2 : Rd w v2 l2.length (l2.map u64v)) (ha : -9223372036854775808 ≤ a ∧ a ≤ 9223372036854775807) (hn : n < 18446744073709551616)
    (h5 : Rd w v5 l.length (l.flatMap opcells8)) (hok : ∀ p ∈ l, DOpOk w p) (hl5 : l.length ≤ maxLen) :
    Calls Try.prog 5 #[.int .u32 per, .int .u32 blocks, v2, .int .i64 a, .int .u64 n, v5] w fun e w' => e = .returned (.bool true) ∧ Keep No w w' := by
  obtain ⟨A2, c2, rfl, hlc2, -⟩ := id h2
  obtain ⟨A5, c5, rfl, hlc5, -⟩ := id h5
  have HLI := Lib.hid (light_any A2 l2.length c2 _ l w h5 hok hl5)
  have HLV := Lib.hid lives39_any
  have H2 := Lib.hid h2
  have H5 := Lib.hid h5
  have HOK := Lib.hid hok
  clear h2 h5 hok hl5
  cases hlt : lightB l2.length l
  · rw [hlt] at HLI
    clear ha hn hp hb hlt
    go_enter Try.func5, Try.ntmps5
    go_wp2_with fail
    refine HLI.out.mono ?_
    rintro e w1 ⟨rfl, k1⟩
    go_wp2_with fail
    refine (HLV.out _).mono ?_
    rintro e w2 ⟨rfl, k2⟩
    go_wp2_with fail
    go_ret
    exact ⟨rfl, k1.trans k2⟩
  rw [hlt] at HLI
  obtain ⟨hl60, hl300, hsm⟩ := light_ops hlt
  have HSM := Lib.hid hsm
  clear hlt hsm
  by_cases hbad : (a < 1 ∨ 64 < a ∨ n = 0) ∨ dfit per blocks l2.length = false
  · have HN := Lib.hid (fun W (hk : Keep No w W) => dnew_bad per blocks n a _ l2 W hp hb hn ha (H2.out.keep hk) (by omega) hbad)
    have HR := Lib.hid (fun W (hk : Keep No w W) => rdnew_bad per blocks n a _ l2 W hp hb hn (H2.out.keep hk) (by omega) hbad)
    clear ha hn hp hb hbad
    go_enter Try.func5, Try.ntmps5
    go_wp2_with fail
    refine HLI.out.mono ?_
    rintro e w1 ⟨rfl, k1⟩
    have K1 := Lib.hid k1
    clear k1
    go_wp2_with fail
    refine (HN.out _ K1.out).mono ?_
    rintro e w2 ⟨rfl, k2⟩
    have K2 := Lib.hid (K1.out.trans k2)
    clear k2
    go_wp2_with fail
    refine (HR.out _ K2.out).mono ?_
    rintro e w3 ⟨p, rfl, k3⟩
    have K3 := Lib.hid (K2.out.trans k3)
    clear k3
    go_wp2_with (go_at_call 20; refine (HLV.out _).mono ?_; rintro e w4 ⟨rfl, k4⟩)
    go_ret
    exact ⟨rfl, K3.out.trans k4⟩
  have hf : dfit per blocks l2.length = true := by
    cases e : dfit per blocks l2.length
    · exact absurd (.inr e) hbad
    · rfl
  obtain ⟨most, rfl⟩ := Int.eq_ofNat_of_zero_le (show 0 ≤ a by omega)
  have HN := Lib.hid (fun W (hk : Keep No w W) => dnew_any (X := fun _ => False) per blocks n most _ l2 W hp hb hn (by omega) (by omega) (by omega) (H2.out.keep hk) (by omega) hf (fun _ h => h.elim))
  have HR := Lib.hid (fun W (hk : Keep No w W) => rdnew_any per blocks n most _ l2 W hp hb hn (by omega) (by omega) (by omega) (H2.out.keep hk) (by omega) hf)
  have HBN := Lib.hid (fun w1 w2 w3 g r qb C X vs lo => bo_new per blocks n most l2 w1 w2 w3 g r qb C X vs lo hf hb (by omega))
  clear ha hn hp hb hbad hf
  go_enter Try.func5, Try.ntmps5
  go_wp2_with fail
  refine HLI.out.mono ?_
  rintro e w1 ⟨rfl, k1⟩
  have K1 := Lib.hid k1
  clear k1
  go_wp2_with fail
  refine (HN.out _ K1.out).mono ?_
  rintro e w2 ⟨g, rfl, hd, k2⟩
  have HD := Lib.hid hd
  have K12 := Lib.hid k2
  have K2 := Lib.hid (K1.out.trans k2)
  clear k2 hd
  go_wp2_with fail
  refine (HR.out _ K2.out).mono ?_
  rintro e w3 ⟨r, qb, C, X0, rfl, hr, hX, k3⟩
  have HB0 := Lib.hid (HBN.out w1 w2 w3 g r qb C X0 _ _ K12.out k3 HD.out hr hX)
  have K3 := Lib.hid (K12.out.trans k3)
  obtain ⟨B, hB⟩ : ∃ B, B = w1.heap.size := ⟨_, rfl⟩
  rw [← hB] at HB0
  have HB := Lib.hid hB
  clear k3 hr hX HD HBN HN HR K12 K2 hB HLI
  have ht0 : (⟨per, blocks, l2, most, n, [], []⟩ : DD).ts.length ≤ 0 := Nat.le_refl _
  generalize (⟨per, blocks, l2, most, n, [], []⟩ : DD) = D0 at *
  go_upto_region 7 with fail
  go_wp2_with fail
  go_loopw [58] (fun iv wr => ∃ i D X, i ≤ l.length ∧ iv = .int .i64 (i : Nat) ∧ Hid (Bo X B wr g r D D) ∧ D.ts.length ≤ i ∧ Hid (KeepZ (TB B) w3 wr)) (fun iv _ => l.length - (intOf iv).toNat)
  case atStart => exact ⟨0, D0, X0, Nat.zero_le _, rfl, HB0, ht0, KeepZ.refl _ _⟩
  case round =>
    obtain ⟨i, D, X, hi, rfl, hbo, hti, hk⟩ := hrel
    have KZ := Lib.hid ((KeepZ.of (T := TB B) K3.out).trans hk.out)
    have kw : Keep No w wr := K1.out.trans (KZ.out.no (fun k s h => by have := HB.out; unfold TB at h; omega))
    have KW := Lib.hid kw
    by_cases hlt : i < l.length
    case neg =>
      clear kw
      go_wp2_with fail
      refine (HLV.out _).mono ?_
      rintro e w4 ⟨rfl, k4⟩
      go_wp2_with fail
      go_ret
      exact ⟨rfl, KW.out.trans k4⟩
    obtain ⟨b, oo, c', hv, hc', x0, x1, x2, x3, x4, x5, x6, x7⟩ := (H5.out.keep kw).dop i hlt
    injection hv with hA _ hcc
    subst hA hcc
    have hopk := HOK.out l[i] (List.getElem_mem hlt)
    have hsm := HSM.out l[i] (List.getElem_mem hlt)
    have htask := hopk.task
    have hnow := hopk.now
    have hfrm := hopk.frm
    have hcnt := hopk.cnt
    have hchv := hopk.ch
    have HCH := Lib.hid hchv
    clear kw hopk
    generalize l[i] = x at *
    obtain ⟨kind, frm, cnt, data, task, part, now, ch, chunks⟩ := x
    simp only at x0 x1 x2 x3 x4 x5 x6 x7 hsm htask hnow hfrm hcnt hchv HCH
    obtain ⟨A7, c7, rfl, -, -⟩ := hchv
    obtain ⟨W0, hW0⟩ : ∃ W0, W0 = wr.alloc (.cells #[.int .i64 kind, .int .u32 (frm : Nat), .int .u32 (cnt : Nat), .string data, .int .u64 (task : Nat), .int .i64 part, .int .u64 (now : Nat), .slice A7 chunks.length c7] 50) := ⟨_, rfl⟩
    have ka : Keep No wr W0 := by rw [hW0]; exact (Keep.refl _ _).alloc _
    have hblk : W0.heap[wr.heap.size]? = some (.cells #[.int .i64 kind, .int .u32 (frm : Nat), .int .u32 (cnt : Nat), .string data, .int .u64 (task : Nat), .int .i64 part, .int .u64 (now : Nat), .slice A7 chunks.length c7] 50 (0, 0)) := by rw [hW0]; exact blk_at _ _ rfl
    have HW0 := Lib.hid hW0
    have KA := Lib.hid ka
    have y0 : W0.cell? ⟨wr.heap.size, 0, none⟩ = some (.int .i64 kind) := (blk_cell hblk 0).trans rfl
    have y1 : W0.cell? ⟨wr.heap.size, 1, none⟩ = some (.int .u32 (frm : Nat)) := (blk_cell hblk 1).trans rfl
    have y2 : W0.cell? ⟨wr.heap.size, 2, none⟩ = some (.int .u32 (cnt : Nat)) := (blk_cell hblk 2).trans rfl
    have y3 : W0.cell? ⟨wr.heap.size, 3, none⟩ = some (.string data) := (blk_cell hblk 3).trans rfl
    have y4 : W0.cell? ⟨wr.heap.size, 4, none⟩ = some (.int .u64 (task : Nat)) := (blk_cell hblk 4).trans rfl
    have y5 : W0.cell? ⟨wr.heap.size, 5, none⟩ = some (.int .i64 part) := (blk_cell hblk 5).trans rfl
    have y6 : W0.cell? ⟨wr.heap.size, 6, none⟩ = some (.int .u64 (now : Nat)) := (blk_cell hblk 6).trans rfl
    have y7 : W0.cell? ⟨wr.heap.size, 7, none⟩ = some (.slice A7 chunks.length c7) := (blk_cell hblk 7).trans rfl
    have HDO : Hid (Calls Try.prog 23 #[.pointer (some ⟨g, 0, none⟩), .pointer (some ⟨r, 0, none⟩), .agg #[.int .i64 kind, .int .u32 (frm : Nat), .int .u32 (cnt : Nat), .string data, .int .u64 (task : Nat), .int .i64 part, .int .u64 (now : Nat), .slice A7 chunks.length c7]] W0.drew fun e w' => e = .returned (.bool true) ∧ Did B W0.drew w' g r D) :=
      do_any ⟨kind, frm, cnt, data, task, part, now, .slice A7 chunks.length c7, chunks⟩ (hbo.out.no ka.drew) (by omega) ⟨hfrm, hcnt, htask, hnow⟩ (by simp only; omega) (fun W hkW => HCH.out.keep (K1.out.trans (((KZ.out.then ka.drew).trans hkW).no (fun k s h => by have := HB.out; unfold TB at h; omega)))) (by simp only; omega)
    have HBO := Lib.hid hbo.out
    have HKZ := Lib.hid (hk.out.then ka.drew)
    clear hblk ka hbo hk hW0
    go_upto_region 10 with fail
    rw [← HW0.out]
    clear x0 x1 x2 x3 x4 x5 x6 x7
    generalize wr.heap.size = ob at *
    go_cut [94] (fun s wx => s = .bool false ∧ ∃ D1 X1, Hid (Bo X1 B wx g r D1 D1) ∧ D1.ts.length ≤ i + 1 ∧ Hid (KeepZ (TB B) w3 wx))
    case first =>
      go_region_law ((go_simp; first
        | (go_at_call 23; refine HDO.out.mono ?_; rintro e W1 ⟨rfl, X1, D1, hb1, hl1, hz1⟩; have few1 : D1.ts.length ≤ 4096 := by omega)
        | (go_at_call 25; refine (bo_open hb1 few1).mono ?_; rintro e W2 ⟨v2, rfl, hv2, hk2⟩; have hb2 := hb1.no hk2)
        | (go_at_call 26; refine (bo_ropen hb2 few1).mono ?_; rintro e W3 ⟨v3, rfl, hv3, hk3⟩; have hb3 := hb2.no hk3)
        | (go_at_call 24; refine (same_any v2 v3 (dopen D1) W3 (hv2.no hk3) hv3 (dopen_few D1 hb1.i few1)).mono ?_; rintro e W4 ⟨rfl, hk4⟩; have hb4 := hb3.no hk4; obtain ⟨z1, A4, k4, z4⟩ := bo_cells hb4)
        | (go_at_call 27; refine (bo_blocks hb4).mono ?_; rintro e W5 ⟨rfl, rfl⟩)
        | (go_at_call 28; refine (bo_tasks hb4).mono ?_; rintro e W5 ⟨rfl, rfl⟩)))
      all_goals
        go_wp2_with fail
        go_meet
        refine ⟨?_, D1, X1, hb4, by omega, HKZ.out.trans (hz1.trans (((KeepZ.of (T := TB B) hk2).then hk3).then hk4))⟩
        rw [IntWalk.u64_in (D1.ts.length : Int) (by omega), bne_self_eq_false]
    case rest =>
    obtain ⟨rfl, D1, X1, hb1, hl1, hz1⟩ := hcut
    clear HDO HKZ HBO y0 y1 y2 y3 y4 y5 y6 y7
    generalize wc = wx at *
    have few1 : D1.ts.length ≤ 4096 := by omega
    have HT := Lib.hid (fun W (hk : Keep No wx W) => bo_tasks (hb1.out.no hk))
    have HS := Lib.hid (fun id (hid : id < 18446744073709551616) W (hk : Keep No wx W) => bo_state id (hb1.out.no hk) hid)
    have HRS := Lib.hid (fun id (hid : id < 18446744073709551616) W (hk : Keep No wx W) => bo_rstate id (hb1.out.no hk) few1 hid)
    have HB1 := Lib.hid hb1.out
    have HZ1 := Lib.hid hz1.out
    clear hb1 hz1
    obtain ⟨L, hL⟩ : ∃ L, L = D1.ts.length := ⟨_, rfl⟩
    rw [← hL] at HT hl1 few1
    have HL := Lib.hid hL
    clear hL
    have hw1 := IntWalk.u64_in ((L : Int) + 1) (by omega)
    go_wp2_with fail
    go_loopw [18] (fun iv wr => ∃ k, k ≤ L + 2 ∧ iv = .int .u64 (k : Nat) ∧ Hid (Keep No wx wr)) (fun iv _ => L + 2 - (intOf iv).toNat)
    case atStart => exact ⟨0, Nat.zero_le _, rfl, Keep.refl _ _⟩
    case round =>
      obtain ⟨k, hk, rfl, hkn⟩ := hrel
      by_cases hkl : k ≤ L + 1
      · have e1 : decide ((k : Int) ≤ (L : Int) + 1) = true := by simp; omega
        have hw2 := IntWalk.u64_in ((k : Int) + 1) (by omega)
        have HS1 := Lib.hid (fun W hW => HS.out k (by omega) W hW)
        have HRS1 := Lib.hid (fun W hW => HRS.out k (by omega) W hW)
        generalize dstate D1 k = st at *
        obtain ⟨st1, st2⟩ := st
        simp only at HS1 HRS1
        go_wp2_with fail
        refine (HT.out _ hkn.out).mono ?_
        rintro e W5 ⟨rfl, rfl⟩
        go_wp2_with fail
        refine (HS1.out _ hkn.out).mono ?_
        rintro e W5 ⟨rfl, k5⟩
        have K5 := Lib.hid (hkn.out.trans k5)
        clear k5
        go_wp2_with fail
        refine (HRS1.out _ K5.out).mono ?_
        rintro e W6 ⟨rfl, k6⟩
        have K6 := Lib.hid (K5.out.trans k6)
        clear k6
        go_wp2_with fail
        exact ⟨⟨k + 1, by omega, by simp, K6⟩, by simp [intOf]; omega⟩
      · have e1 : decide ((k : Int) ≤ (L : Int) + 1) = false := by simp; omega
        go_wp2_with fail
        refine (HT.out _ hkn.out).mono ?_
        rintro e W5 ⟨rfl, rfl⟩
        go_wp2_with fail
        exact ⟨⟨i + 1, D1, X1, by omega, by simp, HB1.out.no hkn.out, by have := HL.out; omega, HZ1.out.then hkn.out⟩, by simp [intOf]; omega⟩
end Go.Proofs.Ytimdaioojnohmaa
