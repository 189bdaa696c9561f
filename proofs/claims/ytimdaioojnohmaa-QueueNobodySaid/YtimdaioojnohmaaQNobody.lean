/-
  The law QueueNobody walked.
-/
import Derived.Test.YtimdaioojnohmaaQLives
namespace Go.Proofs.Ytimdaioojnohmaa
open Go.RowKit

theorem queueNobody_any (id now : Nat) (kd : Int) (w : World) : Calls Try.prog 11 #[.agg #[.int .i64 kd, .int .u64 id, .int .u64 now]] w fun e w' => e = .returned (.bool true) ∧ Keep No w w' := by
  obtain ⟨W, hW⟩ : ∃ W, W = ((w.alloc (.cells #[.int .i64 kd, .int .u64 (id : Nat), .int .u64 (now : Nat)] 93)).alloc (.cells #[.int .i64 0, .int .u64 0, .slice none 0 0] 116)).alloc (.cells #[.pointer none, .pointer (some ⟨w.heap.size + 1, 0, none⟩)] 66) := ⟨_, rfl⟩
  have hk : Keep No w W := hW ▸ (((Keep.refl No w).alloc _).alloc _).alloc _
  have b0 : W.heap[w.heap.size]? = some (.cells #[.int .i64 kd, .int .u64 (id : Nat), .int .u64 (now : Nat)] 93 (0, 0)) := hW ▸ blk_old (blk_old (blk_at _ _ rfl) _) _
  have b1 : W.heap[w.heap.size + 1]? = some (.cells #[.int .i64 0, .int .u64 0, .slice none 0 0] 116 (0, 0)) := hW ▸ blk_old (blk_at _ _ (by simp)) _
  have b2 : W.heap[w.heap.size + 2]? = some (.cells #[.pointer none, .pointer (some ⟨w.heap.size + 1, 0, none⟩)] 66 (0, 0)) := hW ▸ blk_at _ _ (by simp)
  have hq : QAt 0 W (w.heap.size + 1) 0 0 [] := ⟨none, 0, b1, World.ownsRow_nil _ _ _ _, Nat.zero_le _, fun _ _ => Nat.zero_le _, by decide, by decide, by decide⟩
  have HN := Lib.hid (show ∀ wr, Keep No W wr → ∀ i, i < 2 → ∃ p, wr.cell? ⟨w.heap.size + 2, i, none⟩ = some p ∧ Nobody wr p from fun wr hw i hi => by
    have hb := hw.blk b2 (fun h => h)
    obtain rfl | rfl : i = 0 ∨ i = 1 := by omega
    · exact ⟨_, (blk_cell hb 0).trans rfl, .inl rfl⟩
    · exact ⟨_, (blk_cell hb 1).trans rfl, .inr ⟨_, rfl, hq.no hw⟩⟩)
  have HB := Lib.hid b0
  clear b0 b1 b2 hq
  go_enter Try.func11, Try.ntmps11
  go_wp2_with fail
  rw [← hW]
  go_loopw [11] (fun iv wr => ∃ i, i ≤ 2 ∧ iv = .int .i64 (i : Nat) ∧ Keep No W wr) (fun iv _ => 2 - (intOf iv).toNat)
  case atStart => exact ⟨0, by decide, rfl, Keep.refl _ _⟩
  case round =>
    obtain ⟨i, hi, rfl, hr⟩ := hrel
    have hbb := hr.blk HB.out (fun h => h)
    have c1 := (blk_cell hbb 1).trans rfl
    have c2 := (blk_cell hbb 2).trans rfl
    clear hbb
    by_cases hlt : i < 2
    · obtain ⟨p, hp, hno⟩ := HN.out wr hr i hlt
      have hpu := qput_nobody wr p id now hno
      have HNO := Lib.hid hno
      clear hno
      go_wp2_with fail
      refine hpu.mono ?_
      rintro e w1 ⟨rfl, rfl⟩
      have hd := qdone_nobody wr p id HNO.out
      go_wp2_with fail
      refine hd.mono ?_
      rintro e w1 ⟨rfl, k1⟩
      have hl := qlate_nobody w1 p now (HNO.out.keep k1)
      have c11 := k1.cellSome c1 (fun h => h)
      have c21 := k1.cellSome c2 (fun h => h)
      go_wp2_with fail
      refine hl.mono ?_
      rintro e w2 ⟨rfl, k2⟩
      have hl := qall_nobody w2 p (HNO.out.keep (k1.trans k2))
      go_wp2_with fail
      refine hl.mono ?_
      rintro e w3 ⟨k, A, rfl, -, k3⟩
      have hl := qlen_nobody w3 p (HNO.out.keep ((k1.trans k2).trans k3))
      go_wp2_with fail
      refine hl.mono ?_
      rintro e w4 ⟨rfl, k4⟩
      have kk := ((k1.trans k2).trans k3).trans k4
      have hl := qhas_nobody w4 p id (HNO.out.keep kk)
      have c14 := kk.cellSome c1 (fun h => h)
      go_wp2_with fail
      refine hl.mono ?_
      rintro e w5 ⟨rfl, k5⟩
      go_wp2_with fail
      exact ⟨⟨i + 1, by omega, by simp, (hr.trans kk).trans k5⟩, by simp [intOf]; omega⟩
    · have hl := lives38_any wr
      go_wp2_with fail
      refine hl.mono ?_
      rintro e w1 ⟨rfl, k1⟩
      go_wp2_with fail
      go_ret
      exact ⟨rfl, (hk.trans hr).trans k1⟩
end Go.Proofs.Ytimdaioojnohmaa
