/-
  The chapter's example walked.
-/
import Derived.Test.YtimdaioojnohmaaSplits
namespace Go.Proofs.Ytimdaioojnohmaa
open Go.RowKit

theorem split_example : split 3 6 4 9 = [⟨0, 3, 1, 0⟩, ⟨1, 0, 4, 1⟩, ⟨2, 0, 1, 5⟩] := by
  have h : cut 4 9 3 6 0 = [⟨0, 3, 1, 0⟩, ⟨1, 0, 4, 1⟩, ⟨2, 0, 1, 5⟩] := by
    rw [cut_step (by decide) (by decide) (by decide)]
    show _ :: cut 4 9 3 6 1 = _
    rw [cut_step (by decide) (by decide) (by decide)]
    show _ :: _ :: cut 4 9 3 6 5 = _
    rw [cut_step (by decide) (by decide) (by decide)]
    show _ :: _ :: _ :: cut 4 9 3 6 6 = _
    rw [cut_end (by decide)]
    rfl
  unfold split
  rw [if_neg (by decide), h]
  rfl
theorem F0 : F 0 = 0 := by decide
theorem F1 : F 1 = 4607182418800017408 := by decide
theorem F2 : F 2 = 4611686018427387904 := by decide
theorem order_same (n : Nat) (h : n < 9007199254740992) : FloatKind.f64.format.order (F n) (F n) = some .eq := by
  rw [show FloatKind.f64.format = Ieee.double from rfl, order_F n n h h, Nat.compare_eq_eq.2 rfl]

theorem eq_complex {P : Program} (d t : Nat) (a b a' b' : Nat) (ht : P.underlying t = some (.complex .f64)) (w : World) : Sem.run P (Op.equalIn (d + 1) t (.complex .f64 a b) (.complex .f64 a' b')) w =
    .ok ((FloatKind.f64.format.order a a' == some .eq) && (FloatKind.f64.format.order b b' == some .eq)) w := by
  simp [Op.equalIn, run_underlying ht, Op.floatEq]

set_option maxRecDepth 100000 in
theorem lives_any (w : World) : Calls Try.prog 16 #[] w fun e w' => e = .returned (.bool true) ∧ Keep No w w' := by
  have hp := place_any 6 4 w (by decide) (by decide) (by decide)
  rw [show 6 / 4 = 1 from rfl, show 6 % 4 = 2 from rfl, F1, F2] at hp
  have HP := Lib.hid hp
  clear hp
  have hs : ∀ w0, Calls Try.prog 14 #[.agg #[.int .u32 3, .int .u32 6], .int .u32 4, .int .u32 9] w0 fun e w' => ∃ v, e = .returned v ∧ PartsAt w0 w' v [⟨0, 3, 1, 0⟩, ⟨1, 0, 4, 1⟩, ⟨2, 0, 1, 5⟩] ∧ Keep No w0 w' := fun w0 => by
    have := split_all 3 6 4 9 w0 (by decide) (by decide) (by decide) (by decide)
    rw [split_example] at this
    exact this
  have HS := Lib.hid hs
  clear hs
  have o0 := order_same 0 (by decide)
  rw [F0] at o0
  have o1 := order_same 1 (by decide)
  have o2 := order_same 2 (by decide)
  rw [F1] at o1
  rw [F2] at o2
  have heq : ∀ w, Sem.run Try.prog (Op.equalIn 9999 30 (.complex .f64 4607182418800017408 0) (.complex .f64 4607182418800017408 0)) w = .ok true w := fun w => by
    rw [eq_complex 9998 30 _ _ _ _ Try.underlying30 w, o1, o0]
    rfl
  clear o0
  go_enter Try.func16, Try.ntmps16
  go_wp2_with fail
  refine HP.out.mono ?_
  rintro e w1 ⟨rfl, nd, rfl⟩
  go_wp2_with fail
  refine (HS.out _).mono ?_
  rintro e w2 ⟨v, rfl, hpa, hk⟩
  have HPA := Lib.hid hpa
  have hwh := whole_any _ _ _ _ hpa (by decide) (by decide)
  obtain ⟨b, k, rfl, hk3, c0, c1, c2⟩ := hpa.at_ 1 (by decide)
  clear hpa
  have hk4 : 3 ≤ k := hk3
  clear hk3
  simp only [List.getElem_cons_succ, List.getElem_cons_zero, F0, F1] at c0 c1 c2
  go_wp2_with fail
  refine hwh.mono ?_
  rintro e w3 ⟨rfl, rfl⟩
  go_wp2_with fail
  go_ret
  exact ⟨rfl, ((Keep.refl No w).drewN nd).trans hk⟩
end Go.Proofs.Ytimdaioojnohmaa
