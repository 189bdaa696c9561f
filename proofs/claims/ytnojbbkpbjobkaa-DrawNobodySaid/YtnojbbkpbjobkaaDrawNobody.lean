/-
  The law DrawNobody walked.
-/
import Derived.Test.YtnojbbkpbjobkaaNone
namespace Go.Proofs.Ytnojbbkpbjobkaa
open Go.RowKit

theorem clone_nil (w : World) : Calls Try.prog 9 #[.pointer none] w fun e w' => e = .returned (.pointer none) ∧ w = w' := by
  go_enter Try.func9, Try.ntmps9
  go_wp2_with fail
  go_ret
  exact ⟨rfl, rfl⟩
theorem pick_nobody (p : Option Addr) (b c : Nat) (x : Int) (w : World) (h : SrcP w p []) (_hc : 2 ≤ c) (hx : w.cell? ⟨b, 0, none⟩ = some (.int .i64 x)) : Calls Try.prog 12 #[.pointer p, .slice (some ⟨b, 0, none⟩) 2 c] w fun e w' => e = .returned (.int .i64 x) ∧ w = w' := by
  have h0 := Lib.hid (num_nobody p 2 w h (by decide) (by decide))
  clear h
  go_enter Try.func12, Try.ntmps12
  go_wp2_with fail
  refine h0.out.mono ?_
  rintro e w1 ⟨rfl, rfl⟩
  go_wp2_with fail
  go_ret
  exact ⟨rfl, rfl⟩

set_option maxRecDepth 100000 in
set_option maxHeartbeats 4000000 in
theorem drawNobody_any (z : Int) (w : World) (hz1 : -9223372036854775808 ≤ z) (hz2 : z ≤ 9223372036854775807) : Calls Try.prog 4 #[.int .i64 z] w fun e w' => e = .returned (.bool true) ∧ Keep No w w' := by
  by_cases h2 : 200 < z
  · have HL := Lib.hid (lives_any w)
    clear hz1 hz2
    go_enter Try.func4, Try.ntmps4
    go_wp2_with fail
    refine HL.out.mono ?_
    rintro e w1 ⟨rfl, k1⟩
    go_wp2_with fail
    go_ret
    exact ⟨rfl, k1⟩
  have hz : z ≤ 200 := by omega
  have HZ1 := Lib.hid hz1
  have HZ2 := Lib.hid hz2
  clear hz1 hz2
  obtain ⟨W, hW⟩ : ∃ W, W = (w.alloc (.cells #[.slice none 0 0] 31)).alloc (.cells #[.pointer none, .pointer (some ⟨w.heap.size, 0, none⟩)] 22) := ⟨_, rfl⟩
  have hk : Keep No w W := by rw [hW]; exact ((Keep.refl No w).alloc _).alloc _
  have b0 : W.heap[w.heap.size]? = some (.cells #[.slice none 0 0] 31 (0, 0)) := by rw [hW]; exact blk_old (blk_at _ _ rfl) _
  have b1 : W.heap[w.heap.size + 1]? = some (.cells #[.pointer none, .pointer (some ⟨w.heap.size, 0, none⟩)] 22 (0, 0)) := by rw [hW]; exact blk_at _ _ (by simp)
  have HN := Lib.hid (show ∀ wr, Keep No W wr → ∀ i, i < 2 → ∃ p, wr.cell? ⟨w.heap.size + 1, i, none⟩ = some (.pointer p) ∧ SrcP wr p [] from fun wr hw i hi => by
    have hb := hw.blk b1 (fun h => h)
    obtain rfl | rfl : i = 0 ∨ i = 1 := by omega
    · exact ⟨_, (blk_cell hb 0).trans rfl, rfl⟩
    · exact ⟨_, (blk_cell hb 1).trans rfl, rfl, none, 0, hw.blk b0 (fun h => h), Nat.le_refl _, fun i x hx => by simp at hx⟩)
  have HC := Lib.hid (clone_nil w)
  have HW := Lib.hid hW
  clear b0 b1 hW
  go_enter Try.func4, Try.ntmps4
  go_wp2_with fail
  refine HC.out.mono ?_
  rintro e w1 ⟨rfl, rfl⟩
  go_wp2_with fail
  rw [← HW.out]
  clear HW
  go_loopw [17] (fun iv wr => ∃ i, i ≤ 2 ∧ iv = .int .i64 (i : Nat) ∧ Keep No W wr) (fun iv _ => 2 - (intOf iv).toNat)
  case atStart => exact ⟨0, by decide, rfl, Keep.refl _ _⟩
  case round =>
    obtain ⟨i, hi, rfl, hr⟩ := hrel
    by_cases hlt : i < 2
    · obtain ⟨p, hp, hno⟩ := HN.out wr hr i hlt
      have HNO := Lib.hid hno
      have hby := Lib.hid (byte_nobody p wr hno)
      have hnu := Lib.hid (num_nobody p z wr hno HZ1.out HZ2.out)
      have hbs := bytes_nobody p z wr hno hz
      have htx := fun W h => text_nobody p z W h hz
      have hnm := fun W h => nums_nobody p z 3 W h hz (by decide) (by decide)
      clear hno
      rcases (show z < 0 ∨ 0 ≤ z by omega) with hneg | hpos
      case' inl =>
        obtain ⟨m, hm⟩ : ∃ m : Nat, m = 0 := ⟨_, rfl⟩
        have hzt : z.toNat = m := by omega
        have hmx : z ≤ 0 := by omega
        rw [hzt] at hbs
        simp only [hzt] at htx hnm
        subst hm
      case' inr =>
        obtain ⟨m, hm⟩ := Int.eq_ofNat_of_zero_le hpos
        subst hm
        rw [Int.toNat_natCast] at hbs
        simp only [Int.toNat_natCast] at htx hnm
        have hmx : (0 : Int) ≤ (m : Int) := hpos
      all_goals
       have HBS := Lib.hid hbs
       have HTX := Lib.hid htx
       have HNM := Lib.hid hnm
       clear hbs htx hnm
       go_wp2_with fail
       refine hby.out.mono ?_
       rintro e w2 ⟨rfl, rfl⟩
       go_wp2_with fail
       refine hnu.out.mono ?_
       rintro e w2 ⟨rfl, rfl⟩
       go_wp2_with fail
       refine HBS.out.mono ?_
       rintro e w2 ⟨⟨A2, c2, rfl⟩, k2⟩
       have hle := Lib.hid (left_any p [] w2 (src_keep HNO.out k2 (fun _ _ h => h)))
       go_wp2_with fail
       refine hle.out.mono ?_
       rintro e w3 ⟨rfl, rfl⟩
       have k3 : Keep No wr (w2.alloc (.cells #[.int .i64 3, .int .i64 4] 3)) := k2.alloc _
       have hpi := Lib.hid (pick_nobody p w2.heap.size 2 3 (w2.alloc (.cells #[.int .i64 3, .int .i64 4] 3)) (src_keep HNO.out k3 (fun _ _ h => h)) (by decide) ((blk_cell (blk_at _ _ rfl) 0).trans rfl))
       go_wp2_with fail
       refine hpi.out.mono ?_
       rintro e w3 ⟨rfl, rfl⟩
       generalize w2.alloc (.cells #[.int .i64 3, .int .i64 4] 3) = w4 at *
       have ht := Lib.hid (HTX.out w4 (src_keep HNO.out k3 (fun _ _ h => h)))
       go_wp2_with fail
       refine ht.out.mono ?_
       rintro e w5 ⟨⟨s, rfl, hs⟩, k5⟩
       have hnn := Lib.hid (HNM.out w5 (src_keep HNO.out (k3.trans k5) (fun _ _ h => h)))
       go_wp2_with fail
       refine hnn.out.mono ?_
       rintro e w6 ⟨⟨A6, c6, rfl⟩, k6⟩
       go_wp2_with fail
       exact ⟨⟨i + 1, by omega, by simp, ((hr.trans k3).trans k5).trans k6⟩, by simp [intOf]; omega⟩
    · have hl := lives_any wr
      go_wp2_with fail
      refine hl.mono ?_
      rintro e w2 ⟨rfl, k2⟩
      go_wp2_with fail
      go_ret
      exact ⟨rfl, (hk.trans hr).trans k2⟩
end Go.Proofs.Ytnojbbkpbjobkaa
