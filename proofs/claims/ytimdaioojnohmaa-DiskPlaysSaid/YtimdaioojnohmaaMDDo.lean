/-
  The law's do 23: a call, both ways.
-/
import Derived.Test.YtimdaioojnohmaaMSame
import Derived.Test.YtimdaioojnohmaaMDOpen
import Derived.Test.YtimdaioojnohmaaMDFlush
import Derived.Deep.RegionHeld3
namespace Go.Proofs.Ytimdaioojnohmaa
open Go.RowKit Go.Maps
theorem A125.keepD {X : Nat → Prop} {B : Nat} {w0 w w' : World} {v : Value} {l : List DPart} (h : A125 w0 w v l) (hk : KeepZ (TD X B) w w') : A125 w0 w' v l := by
  obtain ⟨A, k, rfl, ho, hb⟩ := h
  exact ⟨A, k, rfl, hk.row ho (fun i _ ⟨_, e⟩ => by simp at e), hb⟩
/-- What do leaves: both disks as one, at most one task more. -/
def Did (B : Nat) (w w' : World) (g r : Nat) (D : DD) : Prop := ∃ X' D', Bo X' B w' g r D' D' ∧ D'.ts.length ≤ D.ts.length + 1 ∧ KeepZ (TB B) w w'
section
variable {X : Nat → Prop} {B : Nat} {w w' : World} {g r : Nat} {D D2 D' : DD}
theorem dadd_len (D : DD) (t : DTask) (now : Nat) : (dadd D t now).2.2.ts.length ≤ D.ts.length + 1 := by
  rcases dadd_cases D t now with ⟨-, e⟩ | ⟨-, -, e⟩ <;> rw [e] <;> simp
theorem dbegin_len (D : DD) (a c : Nat) (write : Bool) (data : ByteArray) (now : Nat) : (dbegin D a c write data now).2.2.2.ts.length ≤ D.ts.length + 1 := by
  unfold dbegin
  split
  · simp
  · split
    · simp
    · simp only
      split
      · exact dadd_len _ _ _
      · exact dadd_len _ _ _
theorem dwrite_len (D : DD) (a : Nat) (data : ByteArray) (now : Nat) : (dwrite D a data now).2.2.2.ts.length ≤ D.ts.length + 1 := by
  unfold dwrite
  split
  · simp
  · split
    · simp
    · exact dbegin_len _ _ _ _ _ _
theorem dflush_len (D : DD) (now : Nat) : (dflush D now).2.2.ts.length ≤ D.ts.length + 1 := by
  unfold dflush
  simp only
  split
  · rw [dflushes_len]; exact dadd_len _ _ _
  · exact dadd_len _ _ _
theorem asks_few (D : DD) (a c : Nat) (write : Bool) (data : ByteArray) (now : Nat) : (dbegin D a c write data now).2.1.length ≤ 64 := by
  unfold dbegin
  split
  · simp
  · split
    · simp
    · simp only
      split
      · rw [asksOf_len]; omega
      · simp
set_option maxRecDepth 100000 in
set_option maxHeartbeats 1000000 in
theorem do_write (o : DOp) (h : Bo X B w g r D D) (hk0 : o.kind = 0) (few : D.ts.length ≤ 1048575) (ha : o.frm < 4294967296) (hs : o.data.size ≤ 1048576) (hnow : o.now < 18446744073709551616) :
    Calls Try.prog 23 #[.pointer (some ⟨g, 0, none⟩), .pointer (some ⟨r, 0, none⟩), .agg (opcells8 o).toArray] w fun e w' => e = .returned (.bool true) ∧ Did B w w' g r D := by
  obtain ⟨kind, frm, cnt, data, task, part, now, ch, chunks⟩ := o
  simp only at hk0 ha hs hnow
  subst hk0
  have ka : Keep No w (w.alloc (.cells (opcells8 ⟨0, frm, cnt, data, task, part, now, ch, chunks⟩).toArray 50)) := (Keep.refl _ _).alloc _
  have hb := blk_at w (.cells (opcells8 ⟨0, frm, cnt, data, task, part, now, ch, chunks⟩).toArray 50) rfl
  have h0 := h.no ka
  have HI := Lib.hid h.i
  obtain ⟨W0, hW0⟩ : ∃ W0, W0 = w.alloc (.cells (opcells8 ⟨0, frm, cnt, data, task, part, now, ch, chunks⟩).toArray 50) := ⟨_, rfl⟩
  rw [← hW0] at ka hb h0
  have HW0 := Lib.hid hW0
  have HH := Lib.hid h0
  have KA := Lib.hid ka
  have HB := Lib.hid hb
  have HP := Lib.hid (dwrite_any B _ g frm now data D W0 h0.d h0.i.fit h0.i.b32 few ha (by omega))
  have HR : Hid (∀ W1 D', Bo X B W1 g r D' D → Calls Try.prog 62 #[.pointer (some ⟨r, 0, none⟩), .int .u32 (frm : Nat), .string data, .int .u64 (now : Nat)] W1 fun e w' => ∃ v, e = .returned (.tuple #[.int .u64 ((dwrite D frm data now).1 : Nat), v, .int .i64 ((dwrite D frm data now).2.2.1 : Nat)]) ∧
      N137 w' v (dwrite D frm data now).2.1 ∧ Bo X B w' g r D' (dwrite D frm data now).2.2.2 ∧ KeepZ (TD X B) W1 w') := fun W1 D' hW => by
    obtain ⟨qb, C, T, vs, lo, hr⟩ := hW.r
    refine (rwrite_any frm now data hr few HI.out.fit HI.out.b32 ha (by omega)).mono ?_
    rintro e w' ⟨v, he, hv, ⟨T', vs', lo', hr'⟩, hk⟩
    exact ⟨v, he, hv, hW.doc hr' hk, hk⟩
  have hlen := dwrite_len D frm data now
  have hDI := h.i.write frm data now hnow (by omega)
  have h64 : (dwrite D frm data now).2.1.length ≤ 1073741824 := by
    unfold dwrite
    split
    · simp
    · split
      · simp
      · exact Nat.le_trans (asks_few _ _ _ _ _ _) (by omega)
  have HDI := Lib.hid hDI
  clear hW0 ka hb h0 h hDI hs ha hnow few
  generalize dwrite D frm data now = res at *
  obtain ⟨r1, r2, r3, r4⟩ := res
  simp only at HP HR hlen HDI h64
  have s0 : W0.cell? ⟨w.heap.size, 0, none⟩ = some (.int .i64 0) := (blk_cell HB.out 0).trans rfl
  have s1 : W0.cell? ⟨w.heap.size, 1, none⟩ = some (.int .u32 (frm : Nat)) := (blk_cell HB.out 1).trans rfl
  have s3 : W0.cell? ⟨w.heap.size, 3, none⟩ = some (.string data) := (blk_cell HB.out 3).trans rfl
  have s6 : W0.cell? ⟨w.heap.size, 6, none⟩ = some (.int .u64 (now : Nat)) := (blk_cell HB.out 6).trans rfl
  go_enter Try.func23, Try.ntmps23
  go_upto_region 1 with fail
  rw [← HW0.out]
  generalize w.heap.size = sb at *
  go_wp2_with fail
  refine HP.out.mono ?_
  rintro e W1 ⟨v, rfl, hv, hd, hk⟩
  have H1 := Lib.hid (HH.out.prog hd HDI.out hk)
  have HV := Lib.hid hv
  have HB1 := Lib.hid (hk.blk HB.out (fun ⟨_, e⟩ => by simp [sig] at e))
  have K1 := Lib.hid (hk.mono TP.tb)
  obtain ⟨Av, kv, rfl, -, -⟩ := hv
  have s1 : W1.cell? ⟨sb, 1, none⟩ = some (.int .u32 (frm : Nat)) := (blk_cell HB1.out 1).trans rfl
  have s3 : W1.cell? ⟨sb, 3, none⟩ = some (.string data) := (blk_cell HB1.out 3).trans rfl
  have s6 : W1.cell? ⟨sb, 6, none⟩ = some (.int .u64 (now : Nat)) := (blk_cell HB1.out 6).trans rfl
  clear hd hk
  go_wp2_with fail
  refine (HR.out _ _ H1.out).mono ?_
  rintro e W2 ⟨v2, rfl, hv2, hb2, hk2⟩
  have H2 := Lib.hid hb2
  have HS := Lib.hid (same_any _ v2 r2 W2 (HV.out.keepD hk2).ask hv2 h64)
  obtain ⟨Av2, kv2, rfl, -⟩ := Sl.shape hv2
  have K2 := Lib.hid (hk2.mono TD.tb)
  clear hv2 hb2 hk2
  go_wp2_with fail
  refine HS.out.mono ?_
  rintro e W3 ⟨rfl, k3⟩
  go_wp2_with fail
  go_ret
  exact ⟨rfl, _, _, H2.out.no k3, hlen, ((KeepZ.of KA.out).trans (K1.out.trans K2.out)).then k3⟩
set_option maxRecDepth 100000 in
set_option maxHeartbeats 1000000 in
theorem do_read (o : DOp) (h : Bo X B w g r D D) (hk0 : o.kind = 1) (few : D.ts.length ≤ 1048575) (ha : o.frm < 4294967296) (hs : o.cnt < 4294967296) (hnow : o.now < 18446744073709551616) :
    Calls Try.prog 23 #[.pointer (some ⟨g, 0, none⟩), .pointer (some ⟨r, 0, none⟩), .agg (opcells8 o).toArray] w fun e w' => e = .returned (.bool true) ∧ Did B w w' g r D := by
  obtain ⟨kind, frm, cnt, data, task, part, now, ch, chunks⟩ := o
  simp only at hk0 ha hs hnow
  subst hk0
  have ka : Keep No w (w.alloc (.cells (opcells8 ⟨1, frm, cnt, data, task, part, now, ch, chunks⟩).toArray 50)) := (Keep.refl _ _).alloc _
  have hb := blk_at w (.cells (opcells8 ⟨1, frm, cnt, data, task, part, now, ch, chunks⟩).toArray 50) rfl
  have h0 := h.no ka
  have HI := Lib.hid h.i
  obtain ⟨W0, hW0⟩ : ∃ W0, W0 = w.alloc (.cells (opcells8 ⟨1, frm, cnt, data, task, part, now, ch, chunks⟩).toArray 50) := ⟨_, rfl⟩
  rw [← hW0] at ka hb h0
  have HW0 := Lib.hid hW0
  have HH := Lib.hid h0
  have KA := Lib.hid ka
  have HB := Lib.hid hb
  have HP := Lib.hid (dread_any B _ g frm cnt now D W0 h0.d h0.i.fit h0.i.b32 few ha hs)
  have HR : Hid (∀ W1 D', Bo X B W1 g r D' D → Calls Try.prog 63 #[.pointer (some ⟨r, 0, none⟩), .int .u32 (frm : Nat), .int .u32 (cnt : Nat), .int .u64 (now : Nat)] W1 fun e w' => ∃ v, e = .returned (.tuple #[.int .u64 ((dread D frm cnt now).1 : Nat), v, .int .i64 ((dread D frm cnt now).2.2.1 : Nat)]) ∧
      N137 w' v (dread D frm cnt now).2.1 ∧ Bo X B w' g r D' (dread D frm cnt now).2.2.2 ∧ KeepZ (TD X B) W1 w') := fun W1 D' hW => by
    obtain ⟨qb, C, T, vs, lo, hr⟩ := hW.r
    refine (rread_any frm cnt now hr few HI.out.fit HI.out.b32 ha hs).mono ?_
    rintro e w' ⟨v, he, hv, ⟨T', vs', lo', hr'⟩, hk⟩
    exact ⟨v, he, hv, hW.doc hr' hk, hk⟩
  have hlen := dbegin_len D frm cnt false ByteArray.empty now
  have hDI := h.i.begin_ frm cnt false ByteArray.empty now hnow (by omega)
  have h64 : (dread D frm cnt now).2.1.length ≤ 1073741824 := by
    exact Nat.le_trans (asks_few _ _ _ _ _ _) (by omega)
  change (dread D frm cnt now).2.2.2.ts.length ≤ _ at hlen
  change DI (dread D frm cnt now).2.2.2 at hDI
  have HDI := Lib.hid hDI
  clear hW0 ka hb h0 h hDI hs ha hnow few
  generalize dread D frm cnt now = res at *
  obtain ⟨r1, r2, r3, r4⟩ := res
  simp only at HP HR hlen HDI h64
  have s0 : W0.cell? ⟨w.heap.size, 0, none⟩ = some (.int .i64 1) := (blk_cell HB.out 0).trans rfl
  have s1 : W0.cell? ⟨w.heap.size, 1, none⟩ = some (.int .u32 (frm : Nat)) := (blk_cell HB.out 1).trans rfl
  have s2 : W0.cell? ⟨w.heap.size, 2, none⟩ = some (.int .u32 (cnt : Nat)) := (blk_cell HB.out 2).trans rfl
  have s6 : W0.cell? ⟨w.heap.size, 6, none⟩ = some (.int .u64 (now : Nat)) := (blk_cell HB.out 6).trans rfl
  go_enter Try.func23, Try.ntmps23
  go_upto_region 1 with fail
  rw [← HW0.out]
  generalize w.heap.size = sb at *
  go_wp2_with fail
  refine HP.out.mono ?_
  rintro e W1 ⟨v, rfl, hv, hd, hk⟩
  have H1 := Lib.hid (HH.out.prog hd HDI.out hk)
  have HV := Lib.hid hv
  have HB1 := Lib.hid (hk.blk HB.out (fun ⟨_, e⟩ => by simp [sig] at e))
  have K1 := Lib.hid (hk.mono TP.tb)
  obtain ⟨Av, kv, rfl, -, -⟩ := hv
  have s1 : W1.cell? ⟨sb, 1, none⟩ = some (.int .u32 (frm : Nat)) := (blk_cell HB1.out 1).trans rfl
  have s2 : W1.cell? ⟨sb, 2, none⟩ = some (.int .u32 (cnt : Nat)) := (blk_cell HB1.out 2).trans rfl
  have s6 : W1.cell? ⟨sb, 6, none⟩ = some (.int .u64 (now : Nat)) := (blk_cell HB1.out 6).trans rfl
  clear hd hk
  go_wp2_with fail
  refine (HR.out _ _ H1.out).mono ?_
  rintro e W2 ⟨v2, rfl, hv2, hb2, hk2⟩
  have H2 := Lib.hid hb2
  have HS := Lib.hid (same_any _ v2 r2 W2 (HV.out.keepD hk2).ask hv2 h64)
  obtain ⟨Av2, kv2, rfl, -⟩ := Sl.shape hv2
  have K2 := Lib.hid (hk2.mono TD.tb)
  clear hv2 hb2 hk2
  go_wp2_with fail
  refine HS.out.mono ?_
  rintro e W3 ⟨rfl, k3⟩
  go_wp2_with fail
  go_ret
  exact ⟨rfl, _, _, H2.out.no k3, hlen, ((KeepZ.of KA.out).trans (K1.out.trans K2.out)).then k3⟩
set_option maxRecDepth 100000 in
set_option maxHeartbeats 1000000 in
theorem do_flush (o : DOp) (h : Bo X B w g r D D) (hk0 : o.kind = 2) (few : D.ts.length ≤ 1048575) (hnow : o.now < 18446744073709551616) :
    Calls Try.prog 23 #[.pointer (some ⟨g, 0, none⟩), .pointer (some ⟨r, 0, none⟩), .agg (opcells8 o).toArray] w fun e w' => e = .returned (.bool true) ∧ Did B w w' g r D := by
  obtain ⟨kind, frm, cnt, data, task, part, now, ch, chunks⟩ := o
  simp only at hk0 hnow
  subst hk0
  have ka : Keep No w (w.alloc (.cells (opcells8 ⟨2, frm, cnt, data, task, part, now, ch, chunks⟩).toArray 50)) := (Keep.refl _ _).alloc _
  have hb := blk_at w (.cells (opcells8 ⟨2, frm, cnt, data, task, part, now, ch, chunks⟩).toArray 50) rfl
  have h0 := h.no ka
  have HI := Lib.hid h.i
  obtain ⟨W0, hW0⟩ : ∃ W0, W0 = w.alloc (.cells (opcells8 ⟨2, frm, cnt, data, task, part, now, ch, chunks⟩).toArray 50) := ⟨_, rfl⟩
  rw [← hW0] at ka hb h0
  have HW0 := Lib.hid hW0
  have HH := Lib.hid h0
  have KA := Lib.hid ka
  have HB := Lib.hid hb
  have HP := Lib.hid (dflush_any B _ g now D W0 h0.d few h0.i.wok h0.i.per.1 h0.xs)
  have HR : Hid (∀ W1 D', Bo X B W1 g r D' D → Calls Try.prog 64 #[.pointer (some ⟨r, 0, none⟩), .int .u64 (now : Nat)] W1 fun e w' => e = .returned (.tuple #[.int .u64 ((dflush D now).1 : Nat), .int .i64 ((dflush D now).2.1 : Nat)]) ∧
      Bo X B w' g r D' (dflush D now).2.2 ∧ KeepZ (TD X B) W1 w') := fun W1 D' hW => by
    obtain ⟨qb, C, T, vs, lo, hr⟩ := hW.r
    refine (rflush_any now hr few HI.out.wok (fun i => (HI.out.tok i).wr) hW.xs).mono ?_
    rintro e w' ⟨he, ⟨T', vs', lo', hr'⟩, hk⟩
    exact ⟨he, hW.doc hr' hk, hk⟩
  have hlen := dflush_len D now
  have hDI := h.i.flush now hnow (by omega)
  have HDI := Lib.hid hDI
  clear hW0 ka hb h0 h hDI hnow few
  generalize dflush D now = res at *
  obtain ⟨r1, r2, r3⟩ := res
  simp only at HP HR hlen HDI
  have s0 : W0.cell? ⟨w.heap.size, 0, none⟩ = some (.int .i64 2) := (blk_cell HB.out 0).trans rfl
  have s6 : W0.cell? ⟨w.heap.size, 6, none⟩ = some (.int .u64 (now : Nat)) := (blk_cell HB.out 6).trans rfl
  go_enter Try.func23, Try.ntmps23
  go_upto_region 1 with fail
  rw [← HW0.out]
  generalize w.heap.size = sb at *
  go_wp2_with fail
  refine HP.out.mono ?_
  rintro e W1 ⟨rfl, hd, hk⟩
  have H1 := Lib.hid (HH.out.prog hd HDI.out hk)
  have HB1 := Lib.hid (hk.blk HB.out (fun ⟨_, e⟩ => by simp [sig] at e))
  have K1 := Lib.hid (hk.mono TP.tb)
  have s6 : W1.cell? ⟨sb, 6, none⟩ = some (.int .u64 (now : Nat)) := (blk_cell HB1.out 6).trans rfl
  clear hd hk
  go_wp2_with fail
  refine (HR.out _ _ H1.out).mono ?_
  rintro e W2 ⟨rfl, hb2, hk2⟩
  have H2 := Lib.hid hb2
  have K2 := Lib.hid (hk2.mono TD.tb)
  clear hb2 hk2
  go_wp2_with fail
  go_ret
  exact ⟨rfl, _, _, H2.out, hlen, (KeepZ.of KA.out).trans (K1.out.trans K2.out)⟩
set_option maxRecDepth 100000 in
set_option maxHeartbeats 2000000 in
theorem do_told (o : DOp) (h : Bo X B w g r D D) (hk0 : o.kind = 3) (few : D.ts.length ≤ 1048575) (hid : o.task < 18446744073709551616) (hs : o.data.size ≤ 1048576) :
    Calls Try.prog 23 #[.pointer (some ⟨g, 0, none⟩), .pointer (some ⟨r, 0, none⟩), .agg (opcells8 o).toArray] w fun e w' => e = .returned (.bool true) ∧ Did B w w' g r D := by
  obtain ⟨kind, frm, cnt, data, task, part, now, ch, chunks⟩ := o
  simp only at hk0 hid hs
  subst hk0
  have ka : Keep No w (w.alloc (.cells (opcells8 ⟨3, frm, cnt, data, task, part, now, ch, chunks⟩).toArray 50)) := (Keep.refl _ _).alloc _
  have hb := blk_at w (.cells (opcells8 ⟨3, frm, cnt, data, task, part, now, ch, chunks⟩).toArray 50) rfl
  have h0 := h.no ka
  have HI := Lib.hid h.i
  obtain ⟨W0, hW0⟩ : ∃ W0, W0 = w.alloc (.cells (opcells8 ⟨3, frm, cnt, data, task, part, now, ch, chunks⟩).toArray 50) := ⟨_, rfl⟩
  rw [← hW0] at ka hb h0
  have HW0 := Lib.hid hW0
  have HH := Lib.hid (h0.no (Keep.refl No W0).drew)
  have KA := Lib.hid ka
  have HB := Lib.hid hb
  have hDI := h.i.toldAll task part data hs
  have HP : Hid (∀ W, Bo X B W g r D D → Calls Try.prog 34 #[.pointer (some ⟨g, 0, none⟩), .int .u64 (task : Nat), .int .i64 part, .string data] W fun e w' => e = .returned (.int .i64 ((dtold D task part data).1 : Nat)) ∧
      Bo X B w' g r (dtold D task part data).2 D ∧ KeepZ (TP X B) W w') := fun W hW => by
    refine (dtold_any B _ g task part data D W hW.d HI.out.per.1 (by omega) HI.out.sm HI.out.wok hid).mono ?_
    rintro e w' ⟨he, hd, hk⟩
    exact ⟨he, hW.prog hd hDI.1 hk, hk⟩
  have HR : Hid (∀ W D', Bo X B W g r D' D → Calls Try.prog 65 #[.pointer (some ⟨r, 0, none⟩), .int .u64 (task : Nat), .int .i64 part, .string data] W fun e w' => e = .returned (.int .i64 ((dtold D task part data).1 : Nat)) ∧
      Bo X B w' g r D' (dtold D task part data).2 ∧ KeepZ (TD X B) W w') := fun W D' hW => by
    obtain ⟨qb, C, T, vs, lo, hr⟩ := hW.r
    refine (rtold_any task part data hr (by omega) HI.out.sm HI.out.wok hid).mono ?_
    rintro e w' ⟨he, hr', hk⟩
    exact ⟨he, hW.doc hr' hk, hk⟩
  have hlen : (dtold D task part data).2.ts.length ≤ D.ts.length + 1 := by rw [hDI.2]; omega
  clear hW0 ka hb h0 h hDI hid hs few
  generalize dtold D task part data = res at *
  obtain ⟨r1, r2⟩ := res
  simp only at HP HR hlen
  have s0 : W0.cell? ⟨w.heap.size, 0, none⟩ = some (.int .i64 3) := (blk_cell HB.out 0).trans rfl
  have s3 : W0.cell? ⟨w.heap.size, 3, none⟩ = some (.string data) := (blk_cell HB.out 3).trans rfl
  have s4 : W0.cell? ⟨w.heap.size, 4, none⟩ = some (.int .u64 (task : Nat)) := (blk_cell HB.out 4).trans rfl
  have s5 : W0.cell? ⟨w.heap.size, 5, none⟩ = some (.int .i64 part) := (blk_cell HB.out 5).trans rfl
  go_enter Try.func23, Try.ntmps23
  go_upto_region 1 with fail
  rw [← HW0.out]
  generalize w.heap.size = sb at *
  go_upto_region 15 with fail
  go_region_held3 (fun W' => W'.cell? ⟨sb, 3, none⟩ = some (.string data) ∧ W'.cell? ⟨sb, 4, none⟩ = some (.int .u64 (task : Nat)) ∧ W'.cell? ⟨sb, 5, none⟩ = some (.int .i64 part)) (first | exact ⟨s3, s4, s5⟩ | exact ⟨d3, d4, d5⟩ | exact ⟨f3, f4, f5⟩)
    (first
      | (go_at_call 34; refine (HP.out _ HH.out).mono ?_; rintro e W1 ⟨rfl, hb1, hk1⟩; have hB1 := hk1.blk (((Keep.refl No W0).drew).blk HB.out (fun h => h)) (fun ⟨_, e⟩ => by simp [sig] at e); have d3 : W1.cell? ⟨sb, 3, none⟩ = some (.string data) := (blk_cell hB1 3).trans rfl; have d4 : W1.cell? ⟨sb, 4, none⟩ = some (.int .u64 (task : Nat)) := (blk_cell hB1 4).trans rfl; have d5 : W1.cell? ⟨sb, 5, none⟩ = some (.int .i64 part) := (blk_cell hB1 5).trans rfl)
      | (go_at_call 65; refine (HR.out _ _ hb1).mono ?_; rintro e W2 ⟨rfl, hb2, hk2⟩; have hB2 := hk2.blk hB1 (fun ⟨_, e⟩ => by simp [sig] at e); have f3 : W2.cell? ⟨sb, 3, none⟩ = some (.string data) := (blk_cell hB2 3).trans rfl; have f4 : W2.cell? ⟨sb, 4, none⟩ = some (.int .u64 (task : Nat)) := (blk_cell hB2 4).trans rfl; have f5 : W2.cell? ⟨sb, 5, none⟩ = some (.int .i64 part) := (blk_cell hB2 5).trans rfl))
  have H2 := Lib.hid hb2
  have K2 := Lib.hid ((KeepZ.of (KA.out.drew)).trans ((hk1.mono TP.tb).trans (hk2.mono TD.tb)))
  clear hb1 hb2 hk1 hk2 hB1 hB2
  go_wp2_with fail
  go_ret
  exact ⟨rfl, _, _, H2.out, hlen, K2.out⟩
theorem dtick_few (D : DD) (now : Nat) (h : D.q.length ≤ 64) : (dtick D now).1.length ≤ 64 := by
  unfold dtick qlate
  simp only [List.length_map]
  exact Nat.le_trans (List.length_filter_le _ _) h
theorem RX.overTD {X : Nat → Prop} {B : Nat} {w w' : World} {v : Value} {l : List Nat} (h : RX X w v l) (hk : KeepZ (TD X B) w w') : RX X w' v l :=
  h.keepX hk (fun k hx ⟨_, e⟩ => by simp at e; exact hx e)
set_option maxRecDepth 100000 in
set_option maxHeartbeats 2000000 in
theorem do_tick (o : DOp) (h : Bo X B w g r D D) (hk0 : o.kind = 4) (few : D.ts.length ≤ 1048575) (hnow : o.now < 18446744073709551616) :
    Calls Try.prog 23 #[.pointer (some ⟨g, 0, none⟩), .pointer (some ⟨r, 0, none⟩), .agg (opcells8 o).toArray] w fun e w' => e = .returned (.bool true) ∧ Did B w w' g r D := by
  obtain ⟨kind, frm, cnt, data, task, part, now, ch, chunks⟩ := o
  simp only at hk0 hnow
  subst hk0
  have ka : Keep No w (w.alloc (.cells (opcells8 ⟨4, frm, cnt, data, task, part, now, ch, chunks⟩).toArray 50)) := (Keep.refl _ _).alloc _
  have hb := blk_at w (.cells (opcells8 ⟨4, frm, cnt, data, task, part, now, ch, chunks⟩).toArray 50) rfl
  have h0 := h.no ka
  have HI := Lib.hid h.i
  obtain ⟨W0, hW0⟩ : ∃ W0, W0 = w.alloc (.cells (opcells8 ⟨4, frm, cnt, data, task, part, now, ch, chunks⟩).toArray 50) := ⟨_, rfl⟩
  rw [← hW0] at ka hb h0
  have HW0 := Lib.hid hW0
  have HH := Lib.hid (h0.no (Keep.refl No W0).drew)
  have KA := Lib.hid ka
  have HB := Lib.hid hb
  have hDI := h.i.tick now
  have h64 : (dtick D now).1.length ≤ 64 := by
    obtain ⟨qb, C, T, vs, lo, hr⟩ := h.r
    obtain ⟨_, _, _, _, _, _, _, hl, _⟩ := hr.q
    exact dtick_few D now hl
  have HP : Hid (∀ W, Bo X B W g r D D → Calls Try.prog 36 #[.pointer (some ⟨g, 0, none⟩), .int .u64 (now : Nat)] W fun e w' => ∃ y, e = .returned y ∧ RX X w' y (dtick D now).1 ∧
      Bo X B w' g r (dtick D now).2 D ∧ KeepZ (TP X B) W w') := fun W hW => by
    refine (dtick_new B _ g now D W hW.d few HI.out.per.1 HI.out.qb (fun x hx => ⟨(HI.out.ids x hx).1, (HI.out.ids x hx).2.1⟩) hnow).mono ?_
    rintro e w' ⟨y, he, hy, hd, hk⟩
    exact ⟨y, he, hy.rx hW.xs, hW.prog hd hDI hk, hk⟩
  have HR : Hid (∀ W D', Bo X B W g r D' D → Calls Try.prog 66 #[.pointer (some ⟨r, 0, none⟩), .int .u64 (now : Nat)] W fun e w' => ∃ y, e = .returned y ∧ N64 w' y (dtick D now).1 ∧
      Bo X B w' g r D' (dtick D now).2 ∧ KeepZ (TD X B) W w') := fun W D' hW => by
    obtain ⟨qb, C, T, vs, lo, hr⟩ := hW.r
    refine (rtick_any now hr few (fun x hx => ⟨(HI.out.ids x hx).1, (HI.out.ids x hx).2.1⟩) hnow).mono ?_
    rintro e w' ⟨y, he, hy, hr', hk⟩
    exact ⟨y, he, hy.n64, hW.doc hr' hk, hk⟩
  have hlen : (dtick D now).2.ts.length ≤ D.ts.length + 1 := by rw [dtick_len]; omega
  clear hW0 ka hb h0 h hDI hnow few
  generalize dtick D now = res at *
  obtain ⟨r1, r2⟩ := res
  simp only at HP HR hlen h64
  have s0 : W0.cell? ⟨w.heap.size, 0, none⟩ = some (.int .i64 4) := (blk_cell HB.out 0).trans rfl
  have s6 : W0.cell? ⟨w.heap.size, 6, none⟩ = some (.int .u64 (now : Nat)) := (blk_cell HB.out 6).trans rfl
  go_enter Try.func23, Try.ntmps23
  go_upto_region 1 with fail
  rw [← HW0.out]
  generalize w.heap.size = sb at *
  go_upto_region 17 with fail
  go_region_held3 (fun W' => W'.cell? ⟨sb, 6, none⟩ = some (.int .u64 (now : Nat))) (first | exact s6 | exact d6 | exact f6)
    (first
      | (go_at_call 36; refine (HP.out _ HH.out).mono ?_; rintro e W1 ⟨y1, rfl, hy1, hb1, hk1⟩; have hB1 := hk1.blk (((Keep.refl No W0).drew).blk HB.out (fun h => h)) (fun ⟨_, e⟩ => by simp [sig] at e); have d6 : W1.cell? ⟨sb, 6, none⟩ = some (.int .u64 (now : Nat)) := (blk_cell hB1 6).trans rfl)
      | (go_at_call 66; refine (HR.out _ _ hb1).mono ?_; rintro e W2 ⟨y2, rfl, hy2, hb2, hk2⟩; have hB2 := hk2.blk hB1 (fun ⟨_, e⟩ => by simp [sig] at e); have hy3 := (hy1.overTD hk2).1.n64; have f6 : W2.cell? ⟨sb, 6, none⟩ = some (.int .u64 (now : Nat)) := (blk_cell hB2 6).trans rfl)
      | (go_at_call 51; refine (ints_same y1 y2 r1 _ hy3 hy2 (by omega)).mono ?_; rintro e W3 ⟨rfl, nn, rfl⟩))
  have H2 := Lib.hid (hb2.no ((Keep.refl No W2).drewN nn))
  have K2 := Lib.hid (((KeepZ.of (KA.out.drew)).trans ((hk1.mono TP.tb).trans (hk2.mono TD.tb))).then ((Keep.refl No W2).drewN nn))
  clear hb1 hb2 hk1 hk2 hB1 hB2 hy1 hy2 hy3
  go_wp2_with fail
  go_ret
  exact ⟨rfl, _, _, H2.out, hlen, K2.out⟩
set_option maxRecDepth 100000 in
set_option maxHeartbeats 2000000 in
theorem do_grow (o : DOp) (h : Bo X B w g r D D) (hk0 : o.kind ≠ 0 ∧ o.kind ≠ 1 ∧ o.kind ≠ 2 ∧ o.kind ≠ 3 ∧ o.kind ≠ 4) (hc : o.cnt < 4294967296) (hl : ∀ W, KeepZ (TB B) w W → Rd W o.ch o.chunks.length (o.chunks.map u64v)) (hln : o.chunks.length ≤ 1048576) :
    Calls Try.prog 23 #[.pointer (some ⟨g, 0, none⟩), .pointer (some ⟨r, 0, none⟩), .agg (opcells8 o).toArray] w fun e w' => e = .returned (.bool true) ∧ Did B w w' g r D := by
  obtain ⟨kind, frm, cnt, data, task, part, now, ch, chunks⟩ := o
  simp only at hk0 hc hl hln
  obtain ⟨q0, q1, q2, q3, q4⟩ := hk0
  have q0 : (kind == 0) = false := beq_eq_false_iff_ne.2 q0
  have q1 : (kind == 1) = false := beq_eq_false_iff_ne.2 q1
  have q2 : (kind == 2) = false := beq_eq_false_iff_ne.2 q2
  have q3 : (kind == 3) = false := beq_eq_false_iff_ne.2 q3
  have q4 : (kind == 4) = false := beq_eq_false_iff_ne.2 q4
  have ka : Keep No w (w.alloc (.cells (opcells8 ⟨kind, frm, cnt, data, task, part, now, ch, chunks⟩).toArray 50)) := (Keep.refl _ _).alloc _
  have hb := blk_at w (.cells (opcells8 ⟨kind, frm, cnt, data, task, part, now, ch, chunks⟩).toArray 50) rfl
  have h0 := h.no ka
  have HI := Lib.hid h.i
  obtain ⟨W0, hW0⟩ : ∃ W0, W0 = w.alloc (.cells (opcells8 ⟨kind, frm, cnt, data, task, part, now, ch, chunks⟩).toArray 50) := ⟨_, rfl⟩
  rw [← hW0] at ka hb h0
  have HW0 := Lib.hid hW0
  have HH := Lib.hid (h0.no (Keep.refl No W0).drew)
  have KA := Lib.hid ka
  have HB := Lib.hid hb
  have HDI := Lib.hid (h.i.grow cnt chunks hc hln)
  have HP : Hid (∀ W, KeepZ (TB B) w W → Bo X B W g r D D → Calls Try.prog 35 #[.pointer (some ⟨g, 0, none⟩), .int .u32 (cnt : Nat), ch] W fun e w' => e = .returned (.int .i64 ((dgrow D cnt chunks).1 : Nat)) ∧
      Bo X B w' g r (dgrow D cnt chunks).2 D ∧ KeepZ (TP X B) W w') := fun W hkW hW => by
    refine (dgrow_any B _ g cnt ch chunks D W hW.d HI.out.per.2 HI.out.fit hc HI.out.b32 (hl W hkW) hln HI.out.clen hW.xs).mono ?_
    rintro e w' ⟨he, hd, hk⟩
    exact ⟨he, hW.prog hd HDI.out hk, hk⟩
  have HR : Hid (∀ W D', KeepZ (TB B) w W → Bo X B W g r D' D → Calls Try.prog 67 #[.pointer (some ⟨r, 0, none⟩), .int .u32 (cnt : Nat), ch] W fun e w' => e = .returned (.int .i64 ((dgrow D cnt chunks).1 : Nat)) ∧
      (∃ X', Bo X' B w' g r D' (dgrow D cnt chunks).2) ∧ KeepZ (TD X B) W w') := fun W D' hkW hW => by
    obtain ⟨qb, C, T, vs, lo, hr⟩ := hW.r
    refine (rgrow_any cnt ch chunks hr HI.out.per.2 HI.out.fit hc HI.out.b32 (fun W' hk' => hl W' (hkW.trans hk')) hln).mono ?_
    rintro e w' ⟨he, C', X', hr', hx1, hx2, hk⟩
    refine ⟨he, ⟨X', ?_, ⟨qb, C', T, vs, lo, hr'⟩, hW.i, fun k hx => ?_⟩, hk⟩
    · have hd := hW.d.widen (X' := X') (fun k hx => by
        rcases hx1 k hx with e | e
        · exact .inl e
        · exact .inr e.1)
      have hk' : KeepZ (TD X' B) W w' := hk.mono (fun k s ⟨h1, e⟩ => ⟨h1, by
        rcases e with e | e | e | e | e | e | ⟨e, e2⟩
        · simp [e]
        · simp [e]
        · simp [e]
        · simp [e]
        · simp [e]
        · simp [e]
        · simp [e, hx2 k e2]⟩)
      exact (hd.overD hk').up hk.size (Nat.le_refl _)
    · rcases hx1 k hx with e | e
      · exact ⟨(hW.x k e).1, Nat.lt_of_lt_of_le (hW.x k e).2 hk.size⟩
      · exact ⟨Nat.le_trans hW.bsize e.1, e.2⟩
  have hlen : (dgrow D cnt chunks).2.ts.length ≤ D.ts.length + 1 := by
    unfold dgrow
    split <;> simp
  obtain ⟨Ac, kc, hce, -, -⟩ := hl w (KeepZ.refl _ _)
  subst hce
  clear hW0 ka hb h0 h hc hl hln
  generalize dgrow D cnt chunks = res at *
  obtain ⟨r1, r2⟩ := res
  simp only at HP HR hlen HDI
  have s0 : W0.cell? ⟨w.heap.size, 0, none⟩ = some (.int .i64 kind) := (blk_cell HB.out 0).trans rfl
  have s2 : W0.cell? ⟨w.heap.size, 2, none⟩ = some (.int .u32 (cnt : Nat)) := (blk_cell HB.out 2).trans rfl
  have s7 : W0.cell? ⟨w.heap.size, 7, none⟩ = some (.slice Ac chunks.length kc) := (blk_cell HB.out 7).trans rfl
  go_enter Try.func23, Try.ntmps23
  go_upto_region 1 with fail
  rw [← HW0.out]
  generalize w.heap.size = sb at *
  go_upto_region 18 with fail
  have kD : KeepZ (TB B) w W0.drew := KeepZ.of KA.out.drew
  go_region_held3 (fun W' => W'.cell? ⟨sb, 2, none⟩ = some (.int .u32 (cnt : Nat)) ∧ W'.cell? ⟨sb, 7, none⟩ = some (.slice Ac chunks.length kc)) (first | exact ⟨s2, s7⟩ | exact ⟨d2, d7⟩ | exact ⟨f2, f7⟩)
    (first
      | (go_at_call 35; refine (HP.out _ kD HH.out).mono ?_; rintro e W1 ⟨rfl, hb1, hk1⟩; have kE := kD.trans (hk1.mono TP.tb); have hB1 := hk1.blk (((Keep.refl No W0).drew).blk HB.out (fun h => h)) (fun ⟨_, e⟩ => by simp [sig] at e); have d2 : W1.cell? ⟨sb, 2, none⟩ = some (.int .u32 (cnt : Nat)) := (blk_cell hB1 2).trans rfl; have d7 : W1.cell? ⟨sb, 7, none⟩ = some (.slice Ac chunks.length kc) := (blk_cell hB1 7).trans rfl)
      | (go_at_call 67; refine (HR.out _ _ kE hb1).mono ?_; rintro e W2 ⟨rfl, hb2, hk2⟩; have hB2 := hk2.blk hB1 (fun ⟨_, e⟩ => by simp [sig] at e); have f2 : W2.cell? ⟨sb, 2, none⟩ = some (.int .u32 (cnt : Nat)) := (blk_cell hB2 2).trans rfl; have f7 : W2.cell? ⟨sb, 7, none⟩ = some (.slice Ac chunks.length kc) := (blk_cell hB2 7).trans rfl))
  obtain ⟨X2, hb2⟩ := hb2
  have H2 := Lib.hid hb2
  have K2 := Lib.hid (kE.trans (hk2.mono TD.tb))
  clear hb1 hb2 hk1 hk2 hB1 hB2 kD kE
  go_wp2_with fail
  go_ret
  exact ⟨rfl, _, _, H2.out, hlen, K2.out⟩
theorem do_any (o : DOp) (h : Bo X B w g r D D) (few : D.ts.length ≤ 1048575) (hok : o.frm < 4294967296 ∧ o.cnt < 4294967296 ∧ o.task < 18446744073709551616 ∧ o.now < 18446744073709551616) (hs : o.data.size ≤ 1048576)
    (hl : ∀ W, KeepZ (TB B) w W → Rd W o.ch o.chunks.length (o.chunks.map u64v)) (hln : o.chunks.length ≤ 1048576) :
    Calls Try.prog 23 #[.pointer (some ⟨g, 0, none⟩), .pointer (some ⟨r, 0, none⟩), .agg (opcells8 o).toArray] w fun e w' => e = .returned (.bool true) ∧ Did B w w' g r D := by
  by_cases k0 : o.kind = 0
  · exact do_write o h k0 few hok.1 hs hok.2.2.2
  by_cases k1 : o.kind = 1
  · exact do_read o h k1 few hok.1 hok.2.1 hok.2.2.2
  by_cases k2 : o.kind = 2
  · exact do_flush o h k2 few hok.2.2.2
  by_cases k3 : o.kind = 3
  · exact do_told o h k3 few hok.2.2.1 hs
  by_cases k4 : o.kind = 4
  · exact do_tick o h k4 few hok.2.2.2
  · exact do_grow o h ⟨k0, k1, k2, k3, k4⟩ hok.2.1 hl hln
end
end Go.Proofs.Ytimdaioojnohmaa
