/-
  keelsonref37.Block, chart.Step, ChartPlaces walked.
-/
import Derived.Test.YtimdaioojnohmaaWhole
namespace Go.Proofs.Ytimdaioojnohmaa
open Go.RowKit

set_option maxRecDepth 100000 in
theorem whole79 (x : Nat) (w : World) : Calls Try.prog 79 #[.float .f64 x] w fun e w' => e = .returned (.tuple #[.int .u64 ((wholeS x).1 : Nat), .bool (wholeS x).2]) ∧ w = w' := by
  by_cases h : (ge0 x && leT x) = true
  · obtain ⟨hv, hle⟩ := toInt_val x h
    have e1 : wholeS x = (tn x, FloatKind.f64.format.order (F (tn x)) x == some .eq) := by unfold wholeS; rw [if_pos h]
    rw [e1]
    rw [Bool.and_eq_true] at h
    obtain ⟨h1, h2⟩ := h
    unfold ge0 at h1
    unfold leT at h2
    have hcv := fun (w : World) => run_convert_float_int (P := Try.prog) w 33 29 .f64 .u64 x (tn x) (by rw [Try.underlying33]; rfl) Try.underlying29 hv
    clear hv e1
    go_enter Try.func79, Try.ntmps79
    go_wp2_with fail
    go_ret2
    exact ⟨rfl, rfl⟩
  · have e1 : wholeS x = (0, false) := by unfold wholeS; rw [if_neg h]
    rw [e1]
    cases h1 : ge0 x
    · unfold ge0 at h1
      go_enter Try.func79, Try.ntmps79
      go_wp2_with fail
      go_ret2
      exact ⟨rfl, rfl⟩
    · have h2 : leT x = false := by simpa [h1] using h
      unfold ge0 at h1
      unfold leT at h2
      clear h
      go_enter Try.func79, Try.ntmps79
      go_wp2_with fail
      go_ret2
      exact ⟨rfl, rfl⟩

set_option maxRecDepth 100000 in
theorem rblock_any (re im per : Nat) (w : World) (hp : per < 4294967296) : Calls Try.prog 38 #[.float .f64 re, .float .f64 im, .int .u64 per] w fun e w' => e = .returned (.tuple #[.int .u64 ((blockS re im per).1 : Nat), .bool (blockS re im per).2]) ∧ w = w' := by
  have hr := wholeS_le re
  have hi := wholeS_le im
  have cr := whole79 re w
  have ci := whole79 im w
  obtain ⟨r, rb, hR⟩ : ∃ r rb, wholeS re = (r, rb) := ⟨_, _, rfl⟩
  obtain ⟨i, ib, hI⟩ : ∃ r rb, wholeS im = (r, rb) := ⟨_, _, rfl⟩
  have hB := blockS_of (per := per) hR hI
  rw [hR] at hr cr
  rw [hI] at hi ci
  simp only at hr hi cr ci
  clear hR hI
  have CR := Lib.hid cr
  have CI := Lib.hid ci
  clear cr ci
  generalize blockS re im per = B at *
  cases rb
  · obtain rfl : B = (0, false) := hB
    go_enter Try.func38, Try.ntmps38
    go_wp2_with fail
    refine CR.out.mono ?_
    rintro e w1 ⟨rfl, rfl⟩
    go_wp2_with fail
    refine CI.out.mono ?_
    rintro e w1 ⟨rfl, rfl⟩
    go_wp2_with fail
    go_ret2
    exact ⟨rfl, rfl⟩
  cases ib
  · obtain rfl : B = (0, false) := hB
    go_enter Try.func38, Try.ntmps38
    go_wp2_with fail
    refine CR.out.mono ?_
    rintro e w1 ⟨rfl, rfl⟩
    go_wp2_with fail
    refine CI.out.mono ?_
    rintro e w1 ⟨rfl, rfl⟩
    go_wp2_with fail
    go_ret2
    exact ⟨rfl, rfl⟩
  by_cases h1 : i < per
  · have hmul : r * per ≤ 4294967296 * 4294967295 := Nat.mul_le_mul hr (by omega)
    have hw1 : IntKind.u64.wrap ((r : Int) * (per : Int)) = ((r * per : Nat) : Int) := by rw [← Int.natCast_mul]; exact IntWalk.u64_in _ (by omega)
    have HM := Lib.hid hmul
    clear hmul
    generalize r * per = q at *
    by_cases h2 : q + i < 4294967296
    · obtain rfl : B = (q + i, true) := by rw [hB]; simp [h1, h2]
      clear hB
      go_enter Try.func38, Try.ntmps38
      go_wp2_with fail
      refine CR.out.mono ?_
      rintro e w1 ⟨rfl, rfl⟩
      go_wp2_with fail
      refine CI.out.mono ?_
      rintro e w1 ⟨rfl, rfl⟩
      go_wp2_with fail
      go_ret2
      exact ⟨rfl, rfl⟩
    · obtain rfl : B = (0, false) := by rw [hB]; simp [h2]
      clear hB
      have h3 : q ≤ 18446744069414584320 := HM.out
      go_enter Try.func38, Try.ntmps38
      go_wp2_with fail
      refine CR.out.mono ?_
      rintro e w1 ⟨rfl, rfl⟩
      go_wp2_with fail
      refine CI.out.mono ?_
      rintro e w1 ⟨rfl, rfl⟩
      go_wp2_with fail
      go_ret2
      exact ⟨rfl, rfl⟩
  · obtain rfl : B = (0, false) := by rw [hB]; simp [h1]
    clear hB
    go_enter Try.func38, Try.ntmps38
    go_wp2_with fail
    refine CR.out.mono ?_
    rintro e w1 ⟨rfl, rfl⟩
    go_wp2_with fail
    refine CI.out.mono ?_
    rintro e w1 ⟨rfl, rfl⟩
    go_wp2_with fail
    go_ret2
    exact ⟨rfl, rfl⟩

theorem blockS_place (b per : Nat) (hb : b < 4294967296) (h0 : 0 < per) (hp : per < 4294967296) : blockS (F (b / per)) (F (b % per)) per = (b, true) := by
  have hd := Nat.div_add_mod b per
  rw [Nat.mul_comm] at hd
  rw [blockS_F _ _ _ (Nat.mod_lt _ h0) (by omega) (Nat.le_trans (Nat.div_le_self _ _) (by omega)) hp, hd]
theorem blockS_lt (re im per : Nat) : (blockS re im per).1 < 4294967296 := by
  unfold blockS
  split
  · rename_i h; simp at h; exact h.2
  · decide

set_option maxRecDepth 100000 in
theorem step_far (b n per : Nat) (w : World) (hb : b < 4294967296) (hn : n < 4294967296) (h0 : 0 < per) (hp : per < 4294967296) (h : 4294967296 ≤ b + n) :
    Calls Try.prog 39 #[.complex .f64 (F (b / per)) (F (b % per)), .int .u32 n, .int .u32 per] w fun e w' => e = .returned (.tuple #[.complex .f64 0 0, .bool false]) ∧ w = w' := by
  have hc := block_any (F (b / per)) (F (b % per)) per w hp
  rw [blockS_place b per hb h0 hp] at hc
  have HC := Lib.hid hc
  clear hc
  have h' : (4294967296 : Int) ≤ (b : Int) + (n : Int) := by omega
  go_enter Try.func39, Try.ntmps39
  go_wp2_with fail
  refine HC.out.mono ?_
  rintro e w1 ⟨rfl, rfl⟩
  go_wp2_with fail
  go_ret2
  exact ⟨rfl, rfl⟩
set_option maxRecDepth 100000 in
theorem step_near (b n per : Nat) (w : World) (hb : b < 4294967296) (hn : n < 4294967296) (h0 : 0 < per) (hp : per < 4294967296) (h : b + n < 4294967296) :
    Calls Try.prog 39 #[.complex .f64 (F (b / per)) (F (b % per)), .int .u32 n, .int .u32 per] w fun e w' => e = .returned (.tuple #[.complex .f64 (F ((b + n) / per)) (F ((b + n) % per)), .bool true]) ∧ ∃ m, w' = w.drewN m := by
  have hc := block_any (F (b / per)) (F (b % per)) per w hp
  rw [blockS_place b per hb h0 hp] at hc
  have HC := Lib.hid hc
  clear hc
  have h' : (b : Int) + (n : Int) < 4294967296 := by omega
  have hdec : decide ((4294967296 : Int) ≤ (b : Int) + (n : Int)) = false := by simp; omega
  have hpl := place_any (b + n) per w h0 hp h
  rw [Int.natCast_add] at hpl
  have HP := Lib.hid hpl
  clear hpl h
  go_enter Try.func39, Try.ntmps39
  go_wp2_with fail
  refine HC.out.mono ?_
  rintro e w1 ⟨rfl, rfl⟩
  go_wp2_with fail
  refine HP.out.mono ?_
  rintro e w1 ⟨rfl, m, rfl⟩
  go_wp2_with fail
  go_ret2
  exact ⟨rfl, m, rfl⟩

set_option maxRecDepth 100000 in
theorem places_zero (b n re im : Nat) (w : World) : Calls Try.prog 7 #[.int .u32 b, .int .u32 0, .int .u32 n, .float .f64 re, .float .f64 im] w fun e w' => e = .returned (.bool true) ∧ Keep No w w' := by
  have o0 := order_same 0 (by decide)
  rw [F0] at o0
  go_enter Try.func7, Try.ntmps7
  go_wp2_with fail
  refine (place_none b w).mono ?_
  rintro e w1 ⟨rfl, rfl⟩
  go_wp2_with fail
  refine (lives_any _).mono ?_
  rintro e w3 ⟨rfl, hk3⟩
  go_wp2_with fail
  go_ret
  exact ⟨rfl, hk3⟩

set_option maxRecDepth 100000 in
set_option maxHeartbeats 1600000 in
theorem places_any (b per n re im : Nat) (w : World) (hb : b < 4294967296) (h0 : 0 < per) (hp : per < 4294967296) (hn : n < 4294967296) :
    Calls Try.prog 7 #[.int .u32 b, .int .u32 per, .int .u32 n, .float .f64 re, .float .f64 im] w fun e w' => e = .returned (.bool true) ∧ Keep No w w' := by
  have hpl := place_any b per w h0 hp hb
  have hbl := fun W => block_any (F (b / per)) (F (b % per)) per W hp
  rw [blockS_place b per hb h0 hp] at hbl
  have hq := Nat.div_le_self b per
  have hi := Nat.mod_le b per
  have o1 := order_same (b / per) (by omega)
  have o2 := order_same (b % per) (by omega)
  have e1 : floatOfInt .f64 (IntKind.u32.wrap ((b : Int) / (per : Int))) = F (b / per) := by
    rw [IntWalk.u32_in]
    · rfl
    · rw [show (b : Int) / (per : Int) = ((b / per : Nat) : Int) from rfl]
      clear o1 o2
      generalize b / per = q at *
      omega
  have e2 : floatOfInt .f64 ((b : Int).tmod (per : Int)) = F (b % per) := by
    rw [Int.tmod_eq_emod_of_nonneg (by omega)]; rfl
  have HPL := Lib.hid hpl
  have HBL := Lib.hid hbl
  have hpz : ((per : Int) == 0) = false := beq_eq_false_iff_ne.2 (by omega)
  have hpn : ¬ per = 0 := by omega
  clear hpl hbl
  go_enter Try.func7, Try.ntmps7
  go_wp2_with fail
  refine HPL.out.mono ?_
  rintro e w1 ⟨rfl, m1, rfl⟩
  go_wp2_with fail
  refine (HBL.out _).mono ?_
  rintro e w1 ⟨rfl, rfl⟩
  go_wp2_with fail
  go_quiet (fail)
  clear e1 e2
  have hcb := fun W => block_any re im per W hp
  have hrb := fun W => rblock_any re im per W hp
  have hlt := blockS_lt re im per
  generalize blockS re im per = B at *
  obtain ⟨Bn, Bo⟩ := B
  simp only at hcb hrb hlt
  have HCB := Lib.hid hcb
  have HRB := Lib.hid hrb
  clear hcb hrb
  go_wp2_with fail
  refine (HCB.out _).mono ?_
  rintro e w1 ⟨rfl, rfl⟩
  go_wp2_with fail
  refine (HRB.out _).mono ?_
  rintro e w1 ⟨rfl, rfl⟩
  go_wp2_with fail
  by_cases hfar : b + n < 4294967296
  · refine (step_near b n per _ hb hn h0 hp hfar).mono ?_
    rintro e w1 ⟨rfl, m2, rfl⟩
    have hfi : (b : Int) + (n : Int) < 4294967296 := by omega
    have hdec : decide ((b : Int) + (n : Int) < (4294967296 : Int)) = true := by simp; omega
    have hpl := fun W => place_any (b + n) per W h0 hp hfar
    have hq2 := Nat.div_le_self (b + n) per
    have hi2 := Nat.mod_le (b + n) per
    have o3 := order_same ((b + n) / per) (by omega)
    have o4 := order_same ((b + n) % per) (by omega)
    have HP2 := Lib.hid hpl
    clear hpl hq2 hi2
    go_wp2_with fail
    refine (HP2.out _).mono ?_
    rintro e w1 ⟨rfl, m3, rfl⟩
    go_wp2_with fail
    refine (lives_any _).mono ?_
    rintro e w3 ⟨rfl, hk3⟩
    go_wp2_with fail
    go_ret
    exact ⟨rfl, ((Keep.refl No w).drewN _).trans hk3⟩
  · refine (step_far b n per _ hb hn h0 hp (by omega)).mono ?_
    rintro e w1 ⟨rfl, rfl⟩
    have hfi : (4294967296 : Int) ≤ (b : Int) + (n : Int) := by omega
    have hdec : decide ((b : Int) + (n : Int) < (4294967296 : Int)) = false := by simp; omega
    obtain ⟨t, ht⟩ : ∃ t : Nat, b + n = 4294967296 + t := ⟨b + n - 4294967296, by omega⟩
    have hwr : IntKind.u32.wrap ((b : Int) + (n : Int)) = (t : Nat) := by rw [IntKind.wrap_u32]; omega
    have ht2 : t < 4294967296 := by omega
    have hpl := fun W => place_any t per W h0 hp ht2
    have o0 := order_same 0 (by decide)
    rw [F0] at o0
    clear hfar
    have HP2 := Lib.hid hpl
    clear hpl ht
    go_wp2_with fail
    refine (HP2.out _).mono ?_
    rintro e w1 ⟨rfl, m3, rfl⟩
    go_wp2_with fail
    refine (lives_any _).mono ?_
    rintro e w3 ⟨rfl, hk3⟩
    go_wp2_with fail
    go_ret
    exact ⟨rfl, ((Keep.refl No w).drewN _).trans hk3⟩
end Go.Proofs.Ytimdaioojnohmaa
