/-
  keelsonlaw38.lives walked; a queue that no call made.
-/
import Derived.Test.YtimdaioojnohmaaQDone
namespace Go.Proofs.Ytimdaioojnohmaa
open Go.RowKit

theorem lives38_any (w : World) : Calls Try.prog 40 #[] w fun e w' => e = .returned (.bool true) ∧ Keep No w w' := by
  have hn := qnew_any 4 5 w (by decide) (by decide) (by decide) (by decide)
  have HN := Lib.hid hn
  clear hn
  go_enter Try.func40, Try.ntmps40
  go_wp2_with fail
  refine HN.out.mono ?_
  rintro e w1 ⟨rfl, hq, hw⟩
  have hB : w.heap.size ≤ w1.heap.size := by rw [hw, World.size_alloc]; omega
  have k1 : KeepZ (TQ w.heap.size) w w1 := by rw [hw]; exact (KeepZ.refl _ _).alloc _
  have hp := qput_any _ _ 4 5 1 0 [] w1 hq (by decide) hB
  rw [show qput 4 [] 1 0 = (0, [(1, 0)]) from rfl] at hp
  have HP := Lib.hid hp
  clear hp hq hw
  go_wp2_with fail
  refine HP.out.mono ?_
  rintro e w2 ⟨rfl, hq2, k2⟩
  have hp := qput_any _ _ 4 5 2 3 [(1, 0)] w2 hq2 (by decide) (Nat.le_trans hB k2.size)
  rw [show qput 4 [(1, 0)] 2 3 = (0, [(1, 0), (2, 3)]) from rfl] at hp
  have HP2 := Lib.hid hp
  clear hp hq2
  go_wp2_with fail
  refine HP2.out.mono ?_
  rintro e w3 ⟨rfl, hq3, k3⟩
  have hl := qlate_any _ _ 4 5 5 [(1, 0), (2, 3)] w3 hq3 (by decide) (Nat.le_trans hB (Nat.le_trans k2.size k3.size)) (by decide) (by intro x hx; simp at hx; rcases hx with rfl | rfl <;> decide)
  rw [show qlate 5 [(1, 0), (2, 3)] 5 = ([1], [(2, 3)]) from rfl] at hl
  have HL := Lib.hid hl
  clear hl hq3
  go_wp2_with fail
  refine HL.out.mono ?_
  rintro e w4 ⟨r, rfl, hr, hq4, k4⟩
  obtain ⟨b, o, c, rfl, hc, hcell⟩ := hr.n64.at_ 0 (by decide)
  have hh := qhas_any _ _ 4 5 2 [(2, 3)] w4 hq4
  rw [show qhas [(2, 3)] 2 = true from rfl] at hh
  have HH := Lib.hid hh
  have hc1 : 1 ≤ c := hc
  clear hh hq4 hr hc
  have hcell1 : w4.cell? ⟨b, o, none⟩ = some (.int .u64 1) := hcell
  clear hcell
  go_wp2_with fail
  refine HH.out.mono ?_
  rintro e w5 ⟨rfl, k5⟩
  go_wp2_with fail
  go_ret
  exact ⟨rfl, (((k1.trans k2).trans k3).trans k4).then k5 |>.no (fun k s h => h.1)⟩

/-- A queue that no call made: none, or with a most of nought. -/
def Nobody (w : World) (p : Value) : Prop := p = .pointer none ∨ ∃ g, p = .pointer (some ⟨g, 0, none⟩) ∧ QAt 0 w g 0 0 []
theorem Nobody.keep {w w' : World} {p : Value} (h : Nobody w p) (hk : Keep No w w') : Nobody w' p := by
  rcases h with rfl | ⟨g, rfl, h⟩
  · exact .inl rfl
  · exact .inr ⟨g, rfl, h.no hk⟩
theorem qnone_nobody (w : World) (p : Value) (h : Nobody w p) : Calls Try.prog 80 #[p] w fun e w' => e = .returned (.bool true) ∧ w = w' := by
  rcases h with rfl | ⟨g, rfl, h⟩
  · exact qnone_nil w
  · exact qnone_any 0 g 0 0 [] w h
theorem qput_nobody (w : World) (p : Value) (id now : Nat) (h : Nobody w p) : Calls Try.prog 44 #[p, .int .u64 id, .int .u64 now] w fun e w' => e = .returned (.int .i64 1) ∧ w = w' := by
  have hn := qnone_nobody w p h
  clear h
  go_enter Try.func44, Try.ntmps44
  go_wp2_with fail
  refine hn.mono ?_
  rintro e w1 ⟨rfl, rfl⟩
  go_wp2_with fail
  go_ret
  exact ⟨rfl, rfl⟩
theorem qdone_nobody (w : World) (p : Value) (id : Nat) (h : Nobody w p) : Calls Try.prog 49 #[p, .int .u64 id] w fun e w' => e = .returned (.int .i64 1) ∧ Keep No w w' := by
  have k1 : Keep No w (w.alloc (.cells #[.int .u64 (id : Nat)] 29)) := (Keep.refl _ _).alloc _
  have hn := qnone_nobody _ p (h.keep k1)
  clear h
  go_enter Try.func49, Try.ntmps49
  go_wp2_with fail
  refine hn.mono ?_
  rintro e w1 ⟨rfl, rfl⟩
  go_wp2_with fail
  go_ret
  exact ⟨rfl, k1⟩
theorem qlate_nobody (w : World) (p : Value) (now : Nat) (h : Nobody w p) : Calls Try.prog 42 #[p, .int .u64 now] w fun e w' => e = .returned (.slice none 0 0) ∧ Keep No w w' := by
  have k1 : Keep No w ((w.alloc (.cells #[p] 66)).alloc (.cells #[.int .u64 (now : Nat)] 29)) := ((Keep.refl _ _).alloc _).alloc _
  have hn := qnone_nobody _ p (h.keep k1)
  have c0 := (blk_cell (blk_old (blk_at w (.cells #[p] 66) rfl) (.cells #[.int .u64 (now : Nat)] 29)) 0).trans rfl
  have hsz : w.heap.size < ((w.alloc (.cells #[p] 66)).alloc (.cells #[.int .u64 (now : Nat)] 29)).heap.size := by simp; omega
  rcases h with rfl | ⟨g, rfl, h⟩
  all_goals
    try clear h
    go_enter Try.func42, Try.ntmps42
    go_wp2_with fail
    refine hn.mono ?_
    rintro e w1 ⟨rfl, rfl⟩
    go_wp2_with fail
    go_ret
    exact ⟨rfl, k1⟩
theorem qall_nobody (w : World) (p : Value) (h : Nobody w p) : Calls Try.prog 43 #[p] w fun e w' => ∃ k A, e = .returned (.slice A 0 k) ∧ Sl w' (.slice A 0 k) 0 [] ∧ Keep No w w' := by
  rcases h with rfl | ⟨g, rfl, h⟩
  · exact (qall_nil w).mono fun e w' ⟨he, hw⟩ => ⟨0, none, he, Sl.nil _, hw ▸ Keep.refl _ _⟩
  · exact (qall_any 0 g 0 0 [] w h).mono fun e w' ⟨r, he, hr, hk⟩ => by
      obtain ⟨A, k, rfl, ho, -⟩ := hr
      exact ⟨k, A, he, Sl.of_own ho, hk⟩
theorem qlen_nobody (w : World) (p : Value) (h : Nobody w p) : Calls Try.prog 53 #[p] w fun e w' => e = .returned (.int .i64 0) ∧ Keep No w w' := by
  have hi := qall_nobody w p h
  clear h
  go_enter Try.func53, Try.ntmps53
  go_wp2_with fail
  refine hi.mono ?_
  rintro e w' ⟨k, A, rfl, hr, hk⟩
  go_wp2_with fail
  go_ret
  exact ⟨rfl, hk⟩
theorem qhas_nobody (w : World) (p : Value) (id : Nat) (h : Nobody w p) : Calls Try.prog 54 #[p, .int .u64 id] w fun e w' => e = .returned (.bool false) ∧ Keep No w w' := by
  have hi := qall_nobody w p h
  clear h
  go_enter Try.func54, Try.ntmps54
  go_wp2_with fail
  refine hi.mono ?_
  rintro e w' ⟨k, A, rfl, hr, hk⟩
  have hc := contains_any (.slice A 0 k) [] id w' hr (by decide)
  rw [show decide (id ∈ ([] : List Nat)) = false from by simp] at hc
  go_wp2_with fail
  refine hc.mono ?_
  rintro e w2 ⟨rfl, rfl⟩
  go_wp2_with fail
  go_ret
  exact ⟨rfl, hk⟩
end Go.Proofs.Ytimdaioojnohmaa
