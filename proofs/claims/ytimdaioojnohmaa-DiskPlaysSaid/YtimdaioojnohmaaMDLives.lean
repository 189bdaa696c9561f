/-
  keelsonlaw39.lives walked.
  The law DiskNobody walked.
-/
import Derived.Test.YtimdaioojnohmaaMDWrite
import Derived.Test.YtimdaioojnohmaaMDInv
import Derived.Test.YtimdaioojnohmaaMQPart
import Derived.Test.YtimdaioojnohmaaMDOpen
import Derived.Test.YtimdaioojnohmaaMDFun
namespace Go.Proofs.Ytimdaioojnohmaa
open Go.RowKit Go.Maps

theorem split_lives : split 3 3 4 8 = [⟨0, 3, 1, 0⟩, ⟨1, 0, 2, 1⟩] := by
  have h : cut 4 8 3 3 0 = [⟨0, 3, 1, 0⟩, ⟨1, 0, 2, 1⟩] := by
    rw [cut_step (by decide) (by decide) (by decide)]
    show _ :: cut 4 8 3 3 1 = _
    rw [cut_step (by decide) (by decide) (by decide)]
    show _ :: _ :: cut 4 8 3 3 3 = _
    rw [cut_end (by decide)]
    rfl
  unfold split
  rw [if_neg (by decide), h]
  rfl
abbrev LW : ByteArray := ⟨#[97, 97, 97, 97, 97, 97, 97, 97, 98, 98, 98, 98, 98, 98, 98, 98, 99, 99, 99, 99, 99, 99, 99, 99]⟩
def LA (t0 t1 : Bool) : List DPart := [⟨1, 0, 5, 3, 1, true, ⟨#[97, 97, 97, 97, 97, 97, 97, 97]⟩, t0, ByteArray.empty⟩, ⟨1, 1, 6, 0, 2, true, ⟨#[98, 98, 98, 98, 98, 98, 98, 98, 99, 99, 99, 99, 99, 99, 99, 99]⟩, t1, ByteArray.empty⟩]
def L0 : DD := ⟨4, 8, [5, 6], 4, 5, [], []⟩
def L1 (t0 : Bool) : DD := ⟨4, 8, [5, 6], 4, 5, [(1, 0)], [⟨LA t0 false, true, [], 1⟩]⟩
def L2 : DD := ⟨4, 8, [5, 6], 4, 5, [], [⟨LA true true, true, [], 2⟩]⟩
theorem lives_write : dwrite L0 3 LW 0 = (1, LA false false, 0, L1 false) := by
  have h1 : ¬ (LW.size / 8 = 0 ∨ LW.size % 8 ≠ 0) := by decide
  have h2 : ¬ L0.blocks < LW.size / 8 := by decide
  rw [dwrite_ok _ _ _ _ h1 h2]
  show dbegin L0 3 3 true LW 0 = _
  have hs : split 3 3 L0.per 8 = [⟨0, 3, 1, 0⟩, ⟨1, 0, 2, 1⟩] := split_lives
  rw [dbegin_ok _ _ _ _ _ _ (by decide) (by rw [hs]; decide) (LA false false) (by rw [hs]; rfl)]
  rfl
theorem lives_told0 : dtold (L1 false) 1 0 ByteArray.empty = (0, L1 true) := rfl
theorem lives_told1 : dtold (L1 true) 1 1 ByteArray.empty = (0, L2) := rfl
theorem A125.row {w0 w w' : World} {v : Value} {l : List DPart} {T : Nat → Option TypeId → Prop} (h : A125 w0 w v l) (hk : KeepZ T w w') (hT : ∀ k, ¬ T k (some 125)) : A125 w0 w' v l := by
  obtain ⟨A, k, rfl, ho, hb⟩ := h
  exact ⟨A, k, rfl, hk.row ho (fun i _ => hT i), hb⟩
theorem A125.at_ {w0 w : World} {v : Value} {l : List DPart} (h : A125 w0 w v l) (hl : 0 < l.length) : ∃ b k, v = .slice (some ⟨b, 0, none⟩) l.length k ∧ l.length ≤ k ∧ ∀ i j u, (hi : i < l.length) → j < 7 → (acells l[i])[j]? = some u → w.cell? ⟨b, i * 7 + j, none⟩ = some u := by
  obtain ⟨A, k, rfl, ho, hb⟩ := h
  rcases ho.2 with ⟨hv, h0⟩ | ⟨g, cap, cur, hv, _, hg, hc, _⟩
  · omega
  · injection hv with hA _ hk
    subst hA hk
    refine ⟨g, k, rfl, hc, fun i j u hi hj hu => ?_⟩
    have := ho.cells (g := g) rfl (i * 7 + j) u ((flat_get acells 7 acells_len l i j hi hj).trans hu)
    rwa [Addr.add_at, Nat.zero_add] at this
theorem noTP125 {X : Nat → Prop} (B : Nat) : ∀ k, ¬ TP X B k (some 125) := fun k ⟨_, h⟩ => by rcases h with h | h | h | h | h | h <;> simp at h
set_option maxRecDepth 100000 in
set_option maxHeartbeats 2000000 in
theorem lives39_any (w : World) : Calls Try.prog 20 #[] w fun e w' => e = .returned (.bool true) ∧ Keep No w w' := by
  have hI0 : DI L0 := DI.new 4 8 4 5 [5, 6] rfl (by decide) (by decide)
  have hI1 : DI (L1 false) := by have := hI0.write 3 LW 0 (by decide) (by decide); rw [lives_write] at this; exact this
  have hI2 : DI (L1 true) := by have := (hI1.toldAll 1 0 ByteArray.empty (by decide)).1; rw [lives_told0] at this; exact this
  have hI3 : DI L2 := by have := (hI2.toldAll 1 1 ByteArray.empty (by decide)).1; rw [lives_told1] at this; exact this
  have k1 : Keep No w (w.alloc (.cells #[.int .u64 5, .int .u64 6] 29)) := (Keep.refl _ _).alloc _
  have hrd : Rd (w.alloc (.cells #[.int .u64 5, .int .u64 6] 29)) (.slice (some ⟨w.heap.size, 0, none⟩) 2 2) [5, 6].length ([5, 6].map u64v) := Rd.of (Sl.lit w #[.int .u64 5, .int .u64 6] 29 2)
  have HN := Lib.hid (dnew_any 4 8 5 4 _ [5, 6] _ (by decide) (by decide) (by decide) (by decide) (by decide) (by decide) hrd (by decide) rfl (X := No) (fun _ h => h.elim))
  have K1 := Lib.hid k1
  have HI0 := Lib.hid hI0
  have HI1 := Lib.hid hI1
  have HI2 := Lib.hid hI2
  have HI3 := Lib.hid hI3
  clear hI0 hI1 hI2 hI3 hrd k1
  go_enter Try.func20, Try.ntmps20
  go_wp2_with fail
  refine HN.out.mono ?_
  rintro e w1 ⟨g, rfl, hd, k2⟩
  obtain ⟨B, hB⟩ : ∃ B, B = (w.alloc (.cells #[.int .u64 5, .int .u64 6] 29)).heap.size := ⟨_, rfl⟩
  rw [← hB] at hd
  have hBw : w.heap.size ≤ B := by rw [hB]; exact K1.out.size
  have hw := dwrite_any B _ g 3 0 LW L0 w1 hd HI0.out.fit HI0.out.b32 (by decide) (by decide) (by decide)
  rw [lives_write] at hw
  have HW := Lib.hid hw
  have K2 := Lib.hid (K1.out.trans k2)
  clear hd hw k2 hB
  go_wp2_with fail
  refine HW.out.mono ?_
  rintro e w2 ⟨v, rfl, hv, hd, k3⟩
  try simp only at hv hd
  have ht := dtold_any B _ g 1 0 ByteArray.empty (L1 false) w2 hd (by decide) (by decide) HI1.out.sm HI1.out.wok (by decide)
  rw [lives_told0] at ht
  have HT := Lib.hid ht
  have hv0 := hv
  obtain ⟨A, kk, rfl, -, -⟩ := hv0
  have HV := Lib.hid hv
  have K3 := Lib.hid ((KeepZ.of (T := TP No B) K2.out).trans k3)
  clear hd ht hv k3
  go_wp2_with fail
  refine HT.out.mono ?_
  rintro e w3 ⟨rfl, hd, k4⟩
  try simp only at hd
  have ht := dtold_any B _ g 1 1 ByteArray.empty (L1 true) w3 hd (by decide) (by decide) HI2.out.sm HI2.out.wok (by decide)
  rw [lives_told1] at ht
  have HT2 := Lib.hid ht
  have HV2 := Lib.hid (HV.out.row k4 (noTP125 B))
  have K4 := Lib.hid (K3.out.trans k4)
  clear hd ht k4
  go_wp2_with fail
  refine HT2.out.mono ?_
  rintro e w4 ⟨rfl, hd, k5⟩
  try simp only at hd
  have hs := dstate_any B _ g 1 L2 w4 hd (by decide) (by decide) HI3.out.sm
  rw [show dstate L2 1 = (2, ByteArray.empty) from rfl] at hs
  have HS := Lib.hid hs
  have HV3 := Lib.hid (HV2.out.row k5 (noTP125 B))
  have K5 := Lib.hid (K4.out.trans k5)
  clear hd hs k5
  go_wp2_with fail
  refine HS.out.mono ?_
  rintro e w5 ⟨rfl, k6⟩
  obtain ⟨b, k, hsl, hk, hc⟩ := (HV3.out.keep k6).at_ (by decide)
  have hA : A = some ⟨b, 0, none⟩ ∧ kk = k := by
    simp at hsl
    exact ⟨hsl.1, hsl.2⟩
  obtain ⟨rfl, rfl⟩ := hA
  have c2 : w5.cell? ⟨b, 2, none⟩ = some (.int .u64 5) := hc 0 2 _ (by decide) (by decide) rfl
  have c9 : w5.cell? ⟨b, 9, none⟩ = some (.int .u64 6) := hc 1 2 _ (by decide) (by decide) rfl
  have c10 : w5.cell? ⟨b, 10, none⟩ = some (.int .u32 0) := hc 1 3 _ (by decide) (by decide) rfl
  have c11 : w5.cell? ⟨b, 11, none⟩ = some (.int .u32 2) := hc 1 4 _ (by decide) (by decide) rfl
  have c13 : w5.cell? ⟨b, 13, none⟩ = some (.string ⟨#[98, 98, 98, 98, 98, 98, 98, 98, 99, 99, 99, 99, 99, 99, 99, 99]⟩) := hc 1 6 _ (by decide) (by decide) rfl
  have K6 := Lib.hid (K5.out.then k6)
  clear hc hsl hk k6
  go_wp2_with fail
  go_ret
  exact ⟨rfl, K6.out.no (fun k s h => Nat.le_trans hBw h.1)⟩
end Go.Proofs.Ytimdaioojnohmaa

namespace Go.Proofs.Ytimdaioojnohmaa
open Go.RowKit Go.Maps

theorem DOpOk.keep {w w' : World} {x : DOp} (h : DOpOk w x) (hk : Keep No w w') : DOpOk w' x := ⟨h.frm, h.cnt, h.task, h.now, h.data, h.part, h.ch.keep hk, h.nums⟩
/-- An act in a block of its own. -/
theorem op_cells {w : World} {g : Nat} {x : DOp} (h : w.heap[g]? = some (.cells (opcells8 x).toArray 50 (0, 0))) : w.cell? ⟨g, 0, none⟩ = some (.int .i64 x.kind) ∧ w.cell? ⟨g, 1, none⟩ = some (.int .u32 (x.frm : Nat)) ∧ w.cell? ⟨g, 2, none⟩ = some (.int .u32 (x.cnt : Nat)) ∧
    w.cell? ⟨g, 3, none⟩ = some (.string x.data) ∧ w.cell? ⟨g, 4, none⟩ = some (.int .u64 (x.task : Nat)) ∧ w.cell? ⟨g, 5, none⟩ = some (.int .i64 x.part) ∧ w.cell? ⟨g, 6, none⟩ = some (.int .u64 (x.now : Nat)) ∧ w.cell? ⟨g, 7, none⟩ = some x.ch :=
  ⟨(blk_cell h 0).trans rfl, (blk_cell h 1).trans rfl, (blk_cell h 2).trans rfl, (blk_cell h 3).trans rfl, (blk_cell h 4).trans rfl, (blk_cell h 5).trans rfl, (blk_cell h 6).trans rfl, (blk_cell h 7).trans rfl⟩
set_option maxRecDepth 100000 in
set_option maxHeartbeats 4000000 in
theorem diskNobody_any (x : DOp) (w : World) (hok : DOpOk w x) : Calls Try.prog 6 #[.agg (opcells8 x).toArray] w fun e w' => e = .returned (.bool true) ∧ Keep No w w' := by
  obtain ⟨kind, frm, cnt, data, task, part, now, ch, chunks⟩ := x
  change Calls Try.prog 6 #[.agg #[.int .i64 kind, .int .u32 (frm : Nat), .int .u32 (cnt : Nat), .string data, .int .u64 (task : Nat), .int .i64 part, .int .u64 (now : Nat), ch]] w _
  obtain ⟨W0, hW0⟩ : ∃ W0, W0 = w.alloc (.cells #[.int .i64 kind, .int .u32 (frm : Nat), .int .u32 (cnt : Nat), .string data, .int .u64 (task : Nat), .int .i64 part, .int .u64 (now : Nat), ch] 50) := ⟨_, rfl⟩
  obtain ⟨ob, hob⟩ : ∃ ob, ob = w.heap.size := ⟨_, rfl⟩
  have k0 : Keep No w W0 := by rw [hW0]; exact (Keep.refl _ _).alloc _
  have hb : W0.heap[ob]? = some (.cells #[.int .i64 kind, .int .u32 (frm : Nat), .int .u32 (cnt : Nat), .string data, .int .u64 (task : Nat), .int .i64 part, .int .u64 (now : Nat), ch] 50 (0, 0)) := by rw [hW0, hob]; exact blk_at _ _ rfl
  have hl : Calls Try.prog 19 #[.slice none 0 0, .slice (some ⟨W0.heap.size, 0, none⟩) 1 1] (W0.alloc (.cells #[.int .i64 kind, .int .u32 (frm : Nat), .int .u32 (cnt : Nat), .string data, .int .u64 (task : Nat), .int .i64 part, .int .u64 (now : Nat), ch] 50)) fun e w' => e = .returned (.bool (lightB 0 [⟨kind, frm, cnt, data, task, part, now, ch, chunks⟩])) ∧ Keep No (W0.alloc (.cells #[.int .i64 kind, .int .u32 (frm : Nat), .int .u32 (cnt : Nat), .string data, .int .u64 (task : Nat), .int .i64 part, .int .u64 (now : Nat), ch] 50)) w' :=
    light_any none 0 0 _ [⟨kind, frm, cnt, data, task, part, now, ch, chunks⟩] _ (Rd.of (Sl.lit W0 #[.int .i64 kind, .int .u32 (frm : Nat), .int .u32 (cnt : Nat), .string data, .int .u64 (task : Nat), .int .i64 part, .int .u64 (now : Nat), ch] 50 1)) (fun p hp => by rw [List.mem_singleton.1 hp]; exact hok.keep (k0.alloc _)) (by simp [maxLen])
  have HL := Lib.hid hl
  have K0 := Lib.hid k0
  have HB := Lib.hid hb
  have HW0 := Lib.hid hW0
  have HOB := Lib.hid hob
  have hlb : lightB 0 [⟨kind, frm, cnt, data, task, part, now, ch, chunks⟩] = true → data.size < 4611686018427387904 := fun e => by
    simp [lightB, opLight] at e
    omega
  have HOP := Lib.hid (fun wr (hk : Keep No W0 wr) => op_cells (x := ⟨kind, frm, cnt, data, task, part, now, ch, chunks⟩) (hk.blk hb (fun h => h)))
  clear hl k0 hb hW0 hob hok
  generalize lightB 0 [⟨kind, frm, cnt, data, task, part, now, ch, chunks⟩] = lb at *
  have HLBB := Lib.hid hlb
  clear hlb
  obtain ⟨o0, o1, o2, o3, o4, o5, o6, o7⟩ := HOP.out W0 (Keep.refl _ _)
  try simp only at o0 o1 o2 o3 o4 o5 o6 o7
  go_enter Try.func6, Try.ntmps6
  go_upto_region 1 with fail
  rw [← HW0.out, ← HOB.out]
  go_wp2_with fail
  refine HL.out.mono ?_
  rintro e w1 ⟨rfl, k1⟩
  have k2 : Keep No W0 w1 := ((Keep.refl _ _).alloc _).trans k1
  have K2 := Lib.hid k2
  clear k1 k2 o0 o1 o2 o3 o4 o5 o6 o7
  cases lb
  · have HLV := Lib.hid (lives39_any w1)
    go_wp2_with fail
    refine HLV.out.mono ?_
    rintro e w2 ⟨rfl, k3⟩
    go_wp2_with fail
    go_ret
    exact ⟨rfl, (K0.out.trans K2.out).trans k3⟩
  · have HLB := Lib.hid (HLBB.out rfl)
    obtain ⟨W, hW⟩ : ∃ W, W = (w1.alloc (.cells #[.pointer none, .int .u32 0, .int .u32 0, .slice none 0 0, .map none, .int .u64 0] 71)).alloc (.cells #[.pointer none, .pointer (some ⟨w1.heap.size, 0, none⟩)] 44) := ⟨_, rfl⟩
    have hk : Keep No W0 W := hW ▸ (K2.out.alloc _).alloc _
    have b1 : W.heap[w1.heap.size]? = some (.cells #[.pointer none, .int .u32 0, .int .u32 0, .slice none 0 0, .map none, .int .u64 0] 71 (0, 0)) := hW ▸ blk_old (blk_at _ _ rfl) _
    have b2 : W.heap[w1.heap.size + 1]? = some (.cells #[.pointer none, .pointer (some ⟨w1.heap.size, 0, none⟩)] 44 (0, 0)) := hW ▸ blk_at _ _ (by simp)
    obtain ⟨pb, hpb⟩ : ∃ pb, pb = w1.heap.size + 1 := ⟨_, rfl⟩
    rw [← hpb] at b2
    have HN := Lib.hid (show ∀ wr, Keep No W wr → ∀ i, i < 2 → ∃ p, wr.cell? ⟨pb, i, none⟩ = some p ∧ NoDisk wr p from fun wr hw i hi => by
      have hb := hw.blk b2 (fun h => h)
      obtain rfl | rfl : i = 0 ∨ i = 1 := by omega
      · exact ⟨_, (blk_cell hb 0).trans rfl, .inl rfl⟩
      · exact ⟨_, (blk_cell hb 1).trans rfl, .inr ⟨_, _, rfl, hw.blk b1 (fun h => h), rfl, rfl, rfl⟩⟩)
    have HW := Lib.hid hW
    have HK := Lib.hid hk
    have HPB := Lib.hid hpb
    clear b1 b2 hW hk hpb
    go_wp2_with fail
    rw [← HW.out, ← HPB.out]
    go_loopw [26] (fun iv wr => ∃ i, i ≤ 2 ∧ iv = .int .i64 (i : Nat) ∧ Keep No W wr) (fun iv _ => 2 - (intOf iv).toNat)
    case atStart => exact ⟨0, by decide, rfl, Keep.refl _ _⟩
    case round =>
      obtain ⟨i, hi, rfl, hr⟩ := hrel
      by_cases hlt : i < 2
      · obtain ⟨p, hp, hno⟩ := HN.out wr hr i hlt
        have HNO := Lib.hid hno
        have HCALL := Lib.hid (nd_write wr p (frm : Nat) (now : Nat) data hno HLB.out)
        obtain ⟨o0, o1, o2, o3, o4, o5, o6, o7⟩ := HOP.out wr (HK.out.trans hr)
        try simp only at o0 o1 o2 o3 o4 o5 o6 o7
        have HR := Lib.hid hr
        clear hno hr
        go_wp2_with fail
        refine HCALL.out.mono ?_
        rintro e w2 ⟨rfl, k2⟩
        have HR2 := Lib.hid (HR.out.trans k2)
        have HNO2 := Lib.hid (HNO.out.keep k2)
        clear k2 o0 o1 o2 o3 o4 o5 o6 o7 hp
        obtain ⟨o0, o1, o2, o3, o4, o5, o6, o7⟩ := HOP.out w2 (HK.out.trans HR2.out)
        try simp only at o0 o1 o2 o3 o4 o5 o6 o7
        have HCALL2 := Lib.hid (nd_read w2 p (frm : Nat) (cnt : Nat) (now : Nat) HNO2.out)
        go_wp2_with fail
        refine HCALL2.out.mono ?_
        rintro e w3 ⟨rfl, k2⟩
        have HR3 := Lib.hid (HR2.out.trans k2)
        have HNO3 := Lib.hid (HNO2.out.keep k2)
        clear k2 o0 o1 o2 o3 o4 o5 o6 o7
        obtain ⟨o0, o1, o2, o3, o4, o5, o6, o7⟩ := HOP.out w3 (HK.out.trans HR3.out)
        try simp only at o0 o1 o2 o3 o4 o5 o6 o7
        have HCALL3 := Lib.hid (nd_flush w3 p (now : Nat) HNO3.out)
        go_wp2_with fail
        refine HCALL3.out.mono ?_
        rintro e w4 ⟨rfl, k2⟩
        have HR4 := Lib.hid (HR3.out.trans k2)
        have HNO4 := Lib.hid (HNO3.out.keep k2)
        clear k2 o0 o1 o2 o3 o4 o5 o6 o7
        obtain ⟨o0, o1, o2, o3, o4, o5, o6, o7⟩ := HOP.out w4 (HK.out.trans HR4.out)
        try simp only at o0 o1 o2 o3 o4 o5 o6 o7
        have HCALL4 := Lib.hid (nd_state w4 p (task : Nat) HNO4.out)
        go_wp2_with fail
        refine HCALL4.out.mono ?_
        rintro e w5 ⟨rfl, k2⟩
        have HR5 := Lib.hid (HR4.out.trans k2)
        have HNO5 := Lib.hid (HNO4.out.keep k2)
        clear k2 o0 o1 o2 o3 o4 o5 o6 o7
        obtain ⟨o0, o1, o2, o3, o4, o5, o6, o7⟩ := HOP.out w5 (HK.out.trans HR5.out)
        try simp only at o0 o1 o2 o3 o4 o5 o6 o7
        have HCALL5 := Lib.hid (nd_told w5 p (task : Nat) part data HNO5.out)
        go_wp2_with fail
        refine HCALL5.out.mono ?_
        rintro e w6 ⟨rfl, k2⟩
        have HR6 := Lib.hid (HR5.out.trans k2)
        have HNO6 := Lib.hid (HNO5.out.keep k2)
        clear k2 o0 o1 o2 o3 o4 o5 o6 o7
        obtain ⟨o0, o1, o2, o3, o4, o5, o6, o7⟩ := HOP.out w6 (HK.out.trans HR6.out)
        try simp only at o0 o1 o2 o3 o4 o5 o6 o7
        have HCALL6 := Lib.hid (nd_grow w6 p ch (cnt : Nat) HNO6.out)
        go_wp2_with fail
        refine HCALL6.out.mono ?_
        rintro e w7 ⟨rfl, k2⟩
        have HR7 := Lib.hid (HR6.out.trans k2)
        have HNO7 := Lib.hid (HNO6.out.keep k2)
        clear k2 o0 o1 o2 o3 o4 o5 o6 o7
        obtain ⟨o0, o1, o2, o3, o4, o5, o6, o7⟩ := HOP.out w7 (HK.out.trans HR7.out)
        try simp only at o0 o1 o2 o3 o4 o5 o6 o7
        have HCALL7 := Lib.hid (nd_tick w7 p (now : Nat) HNO7.out)
        go_wp2_with fail
        refine HCALL7.out.mono ?_
        rintro e w8 ⟨rfl, k2⟩
        have HR8 := Lib.hid (HR7.out.trans k2)
        have HNO8 := Lib.hid (HNO7.out.keep k2)
        clear k2 o0 o1 o2 o3 o4 o5 o6 o7
        have HCALL8 := Lib.hid (nd_open w8 p HNO8.out)
        go_wp2_with fail
        refine HCALL8.out.mono ?_
        rintro e w9 ⟨rfl, k2⟩
        have HR9 := Lib.hid (HR8.out.trans k2)
        have HNO9 := Lib.hid (HNO8.out.keep k2)
        clear k2
        have HCALL9 := Lib.hid (nd_blocks w9 p HNO9.out)
        go_wp2_with fail
        refine HCALL9.out.mono ?_
        rintro e w10 ⟨rfl, rfl⟩
        have HCALL10 := Lib.hid (nd_tasks w9 p HNO9.out)
        go_wp2_with fail
        refine HCALL10.out.mono ?_
        rintro e w10 ⟨rfl, rfl⟩
        go_wp2_with fail
        exact ⟨⟨i + 1, by omega, by simp, HR9.out⟩, by simp [intOf]; omega⟩
      · have HLV := Lib.hid (lives39_any wr)
        have HR := Lib.hid hr
        clear hr
        go_wp2_with fail
        refine HLV.out.mono ?_
        rintro e w2 ⟨rfl, k3⟩
        go_wp2_with fail
        go_ret
        exact ⟨rfl, ((K0.out.trans HK.out).trans HR.out).trans k3⟩
end Go.Proofs.Ytimdaioojnohmaa
