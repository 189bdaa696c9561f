/-
  The law DiskNobody walked.
-/
import Derived.Test.YtimdaioojnohmaaDLives
import Derived.Test.YtimdaioojnohmaaDLight
import Derived.Test.YtimdaioojnohmaaDNone
namespace Go.Proofs.Ytimdaioojnohmaa
open Go.RowKit Go.Maps

theorem DOpOk.keep {w w' : World} {x : DOp} (h : DOpOk w x) (hk : Keep No w w') : DOpOk w' x := ⟨h.frm, h.cnt, h.task, h.now, h.data, h.part, h.ch.keep hk, h.nums⟩
/-- An act in a block of its own. -/
theorem op_cells {w : World} {g : Nat} {x : DOp} (h : w.heap[g]? = some (.cells (opcells8 x).toArray 50 (0, 0))) : w.cell? ⟨g, 0, none⟩ = some (.int .i64 x.kind) ∧ w.cell? ⟨g, 1, none⟩ = some (.int .u32 (x.frm : Nat)) ∧ w.cell? ⟨g, 2, none⟩ = some (.int .u32 (x.cnt : Nat)) ∧
    w.cell? ⟨g, 3, none⟩ = some (.string x.data) ∧ w.cell? ⟨g, 4, none⟩ = some (.int .u64 (x.task : Nat)) ∧ w.cell? ⟨g, 5, none⟩ = some (.int .i64 x.part) ∧ w.cell? ⟨g, 6, none⟩ = some (.int .u64 (x.now : Nat)) ∧ w.cell? ⟨g, 7, none⟩ = some x.ch :=
  ⟨(blk_cell h 0).trans rfl, (blk_cell h 1).trans rfl, (blk_cell h 2).trans rfl, (blk_cell h 3).trans rfl, (blk_cell h 4).trans rfl, (blk_cell h 5).trans rfl, (blk_cell h 6).trans rfl, (blk_cell h 7).trans rfl⟩
set_option maxRecDepth 100000 in
set_option maxHeartbeats 4000000 in
theorem diskNobody_any (x : DOp) (w : World) (hok : DOpOk w x) : Calls Try.prog 6 #[.agg (opcells8 x).toArray] w fun e w' => e = .returned (.bool true) ∧ Keep No w w' := by
  obtain ⟨kind, frm, cnt, data, task, part, now, ch, chunks⟩ := x
  change Calls Try.prog 6 #[.agg #[.int .i64 kind, .int .u32 (frm : Nat), .int .u32 (cnt : Nat), .string data, .int .u64 (task : Nat), .int .i64 part, .int .u64 (now : Nat), ch]] w _
  obtain ⟨W0, hW0⟩ : ∃ W0, W0 = w.alloc (.cells #[.int .i64 kind, .int .u32 (frm : Nat), .int .u32 (cnt : Nat), .string data, .int .u64 (task : Nat), .int .i64 part, .int .u64 (now : Nat), ch] 50) := ⟨_, rfl⟩
  obtain ⟨ob, hob⟩ : ∃ ob, ob = w.heap.size := ⟨_, rfl⟩
  have k0 : Keep No w W0 := by rw [hW0]; exact (Keep.refl _ _).alloc _
  have hb : W0.heap[ob]? = some (.cells #[.int .i64 kind, .int .u32 (frm : Nat), .int .u32 (cnt : Nat), .string data, .int .u64 (task : Nat), .int .i64 part, .int .u64 (now : Nat), ch] 50 (0, 0)) := by rw [hW0, hob]; exact blk_at _ _ rfl
  have hl : Calls Try.prog 19 #[.slice none 0 0, .slice (some ⟨W0.heap.size, 0, none⟩) 1 1] (W0.alloc (.cells #[.int .i64 kind, .int .u32 (frm : Nat), .int .u32 (cnt : Nat), .string data, .int .u64 (task : Nat), .int .i64 part, .int .u64 (now : Nat), ch] 50)) fun e w' => e = .returned (.bool (lightB 0 [⟨kind, frm, cnt, data, task, part, now, ch, chunks⟩])) ∧ Keep No (W0.alloc (.cells #[.int .i64 kind, .int .u32 (frm : Nat), .int .u32 (cnt : Nat), .string data, .int .u64 (task : Nat), .int .i64 part, .int .u64 (now : Nat), ch] 50)) w' :=
    light_any none 0 0 _ [⟨kind, frm, cnt, data, task, part, now, ch, chunks⟩] _ (Rd.of (Sl.lit W0 #[.int .i64 kind, .int .u32 (frm : Nat), .int .u32 (cnt : Nat), .string data, .int .u64 (task : Nat), .int .i64 part, .int .u64 (now : Nat), ch] 50 1)) (fun p hp => by rw [List.mem_singleton.1 hp]; exact hok.keep (k0.alloc _)) (by simp [maxLen])
  have HL := Lib.hid hl
  have K0 := Lib.hid k0
  have HB := Lib.hid hb
  have HW0 := Lib.hid hW0
  have HOB := Lib.hid hob
  have hlb : lightB 0 [⟨kind, frm, cnt, data, task, part, now, ch, chunks⟩] = true → data.size < 4611686018427387904 := fun e => by
    simp [lightB, opLight] at e
    omega
  have HOP := Lib.hid (fun wr (hk : Keep No W0 wr) => op_cells (x := ⟨kind, frm, cnt, data, task, part, now, ch, chunks⟩) (hk.blk hb (fun h => h)))
  clear hl k0 hb hW0 hob hok
  generalize lightB 0 [⟨kind, frm, cnt, data, task, part, now, ch, chunks⟩] = lb at *
  have HLBB := Lib.hid hlb
  clear hlb
  obtain ⟨o0, o1, o2, o3, o4, o5, o6, o7⟩ := HOP.out W0 (Keep.refl _ _)
  try simp only at o0 o1 o2 o3 o4 o5 o6 o7
  go_enter Try.func6, Try.ntmps6
  go_upto_region 1 with fail
  rw [← HW0.out, ← HOB.out]
  go_wp2_with fail
  refine HL.out.mono ?_
  rintro e w1 ⟨rfl, k1⟩
  have k2 : Keep No W0 w1 := ((Keep.refl _ _).alloc _).trans k1
  have K2 := Lib.hid k2
  clear k1 k2 o0 o1 o2 o3 o4 o5 o6 o7
  cases lb
  · have HLV := Lib.hid (lives39_any w1)
    go_wp2_with fail
    refine HLV.out.mono ?_
    rintro e w2 ⟨rfl, k3⟩
    go_wp2_with fail
    go_ret
    exact ⟨rfl, (K0.out.trans K2.out).trans k3⟩
  · have HLB := Lib.hid (HLBB.out rfl)
    obtain ⟨W, hW⟩ : ∃ W, W = (w1.alloc (.cells #[.pointer none, .int .u32 0, .int .u32 0, .slice none 0 0, .map none, .int .u64 0] 71)).alloc (.cells #[.pointer none, .pointer (some ⟨w1.heap.size, 0, none⟩)] 44) := ⟨_, rfl⟩
    have hk : Keep No W0 W := hW ▸ (K2.out.alloc _).alloc _
    have b1 : W.heap[w1.heap.size]? = some (.cells #[.pointer none, .int .u32 0, .int .u32 0, .slice none 0 0, .map none, .int .u64 0] 71 (0, 0)) := hW ▸ blk_old (blk_at _ _ rfl) _
    have b2 : W.heap[w1.heap.size + 1]? = some (.cells #[.pointer none, .pointer (some ⟨w1.heap.size, 0, none⟩)] 44 (0, 0)) := hW ▸ blk_at _ _ (by simp)
    obtain ⟨pb, hpb⟩ : ∃ pb, pb = w1.heap.size + 1 := ⟨_, rfl⟩
    rw [← hpb] at b2
    have HN := Lib.hid (show ∀ wr, Keep No W wr → ∀ i, i < 2 → ∃ p, wr.cell? ⟨pb, i, none⟩ = some p ∧ NoDisk wr p from fun wr hw i hi => by
      have hb := hw.blk b2 (fun h => h)
      obtain rfl | rfl : i = 0 ∨ i = 1 := by omega
      · exact ⟨_, (blk_cell hb 0).trans rfl, .inl rfl⟩
      · exact ⟨_, (blk_cell hb 1).trans rfl, .inr ⟨_, _, rfl, hw.blk b1 (fun h => h), rfl, rfl, rfl⟩⟩)
    have HW := Lib.hid hW
    have HK := Lib.hid hk
    have HPB := Lib.hid hpb
    clear b1 b2 hW hk hpb
    go_wp2_with fail
    rw [← HW.out, ← HPB.out]
    go_loopw [26] (fun iv wr => ∃ i, i ≤ 2 ∧ iv = .int .i64 (i : Nat) ∧ Keep No W wr) (fun iv _ => 2 - (intOf iv).toNat)
    case atStart => exact ⟨0, by decide, rfl, Keep.refl _ _⟩
    case round =>
      obtain ⟨i, hi, rfl, hr⟩ := hrel
      by_cases hlt : i < 2
      · obtain ⟨p, hp, hno⟩ := HN.out wr hr i hlt
        have HNO := Lib.hid hno
        have HCALL := Lib.hid (nd_write wr p (frm : Nat) (now : Nat) data hno HLB.out)
        obtain ⟨o0, o1, o2, o3, o4, o5, o6, o7⟩ := HOP.out wr (HK.out.trans hr)
        try simp only at o0 o1 o2 o3 o4 o5 o6 o7
        have HR := Lib.hid hr
        clear hno hr
        go_wp2_with fail
        refine HCALL.out.mono ?_
        rintro e w2 ⟨rfl, k2⟩
        have HR2 := Lib.hid (HR.out.trans k2)
        have HNO2 := Lib.hid (HNO.out.keep k2)
        clear k2 o0 o1 o2 o3 o4 o5 o6 o7 hp
        obtain ⟨o0, o1, o2, o3, o4, o5, o6, o7⟩ := HOP.out w2 (HK.out.trans HR2.out)
        try simp only at o0 o1 o2 o3 o4 o5 o6 o7
        have HCALL2 := Lib.hid (nd_read w2 p (frm : Nat) (cnt : Nat) (now : Nat) HNO2.out)
        go_wp2_with fail
        refine HCALL2.out.mono ?_
        rintro e w3 ⟨rfl, k2⟩
        have HR3 := Lib.hid (HR2.out.trans k2)
        have HNO3 := Lib.hid (HNO2.out.keep k2)
        clear k2 o0 o1 o2 o3 o4 o5 o6 o7
        obtain ⟨o0, o1, o2, o3, o4, o5, o6, o7⟩ := HOP.out w3 (HK.out.trans HR3.out)
        try simp only at o0 o1 o2 o3 o4 o5 o6 o7
        have HCALL3 := Lib.hid (nd_flush w3 p (now : Nat) HNO3.out)
        go_wp2_with fail
        refine HCALL3.out.mono ?_
        rintro e w4 ⟨rfl, k2⟩
        have HR4 := Lib.hid (HR3.out.trans k2)
        have HNO4 := Lib.hid (HNO3.out.keep k2)
        clear k2 o0 o1 o2 o3 o4 o5 o6 o7
        obtain ⟨o0, o1, o2, o3, o4, o5, o6, o7⟩ := HOP.out w4 (HK.out.trans HR4.out)
        try simp only at o0 o1 o2 o3 o4 o5 o6 o7
        have HCALL4 := Lib.hid (nd_state w4 p (task : Nat) HNO4.out)
        go_wp2_with fail
        refine HCALL4.out.mono ?_
        rintro e w5 ⟨rfl, k2⟩
        have HR5 := Lib.hid (HR4.out.trans k2)
        have HNO5 := Lib.hid (HNO4.out.keep k2)
        clear k2 o0 o1 o2 o3 o4 o5 o6 o7
        obtain ⟨o0, o1, o2, o3, o4, o5, o6, o7⟩ := HOP.out w5 (HK.out.trans HR5.out)
        try simp only at o0 o1 o2 o3 o4 o5 o6 o7
        have HCALL5 := Lib.hid (nd_told w5 p (task : Nat) part data HNO5.out)
        go_wp2_with fail
        refine HCALL5.out.mono ?_
        rintro e w6 ⟨rfl, k2⟩
        have HR6 := Lib.hid (HR5.out.trans k2)
        have HNO6 := Lib.hid (HNO5.out.keep k2)
        clear k2 o0 o1 o2 o3 o4 o5 o6 o7
        obtain ⟨o0, o1, o2, o3, o4, o5, o6, o7⟩ := HOP.out w6 (HK.out.trans HR6.out)
        try simp only at o0 o1 o2 o3 o4 o5 o6 o7
        have HCALL6 := Lib.hid (nd_grow w6 p ch (cnt : Nat) HNO6.out)
        go_wp2_with fail
        refine HCALL6.out.mono ?_
        rintro e w7 ⟨rfl, k2⟩
        have HR7 := Lib.hid (HR6.out.trans k2)
        have HNO7 := Lib.hid (HNO6.out.keep k2)
        clear k2 o0 o1 o2 o3 o4 o5 o6 o7
        obtain ⟨o0, o1, o2, o3, o4, o5, o6, o7⟩ := HOP.out w7 (HK.out.trans HR7.out)
        try simp only at o0 o1 o2 o3 o4 o5 o6 o7
        have HCALL7 := Lib.hid (nd_tick w7 p (now : Nat) HNO7.out)
        go_wp2_with fail
        refine HCALL7.out.mono ?_
        rintro e w8 ⟨rfl, k2⟩
        have HR8 := Lib.hid (HR7.out.trans k2)
        have HNO8 := Lib.hid (HNO7.out.keep k2)
        clear k2 o0 o1 o2 o3 o4 o5 o6 o7
        have HCALL8 := Lib.hid (nd_open w8 p HNO8.out)
        go_wp2_with fail
        refine HCALL8.out.mono ?_
        rintro e w9 ⟨rfl, k2⟩
        have HR9 := Lib.hid (HR8.out.trans k2)
        have HNO9 := Lib.hid (HNO8.out.keep k2)
        clear k2
        have HCALL9 := Lib.hid (nd_blocks w9 p HNO9.out)
        go_wp2_with fail
        refine HCALL9.out.mono ?_
        rintro e w10 ⟨rfl, rfl⟩
        have HCALL10 := Lib.hid (nd_tasks w9 p HNO9.out)
        go_wp2_with fail
        refine HCALL10.out.mono ?_
        rintro e w10 ⟨rfl, rfl⟩
        go_wp2_with fail
        exact ⟨⟨i + 1, by omega, by simp, HR9.out⟩, by simp [intOf]; omega⟩
      · have HLV := Lib.hid (lives39_any wr)
        have HR := Lib.hid hr
        clear hr
        go_wp2_with fail
        refine HLV.out.mono ?_
        rintro e w2 ⟨rfl, k3⟩
        go_wp2_with fail
        go_ret
        exact ⟨rfl, ((K0.out.trans HK.out).trans HR.out).trans k3⟩
end Go.Proofs.Ytimdaioojnohmaa
