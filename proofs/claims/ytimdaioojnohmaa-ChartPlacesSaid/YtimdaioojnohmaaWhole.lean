/-
  chart.whole and keelsonref37.whole: what they tell of any float; chart.Block and keelsonref37.Block.
-/
import Derived.Test.YtimdaioojnohmaaLives37
namespace Go.Proofs.Ytimdaioojnohmaa
open Go.RowKit Ieee

def ge0 (x : Nat) : Bool := FloatKind.f64.format.order x 0 == some .gt || FloatKind.f64.format.order x 0 == some .eq
def leT (x : Nat) : Bool := FloatKind.f64.format.order x 4751297606875873280 == some .lt || FloatKind.f64.format.order x 4751297606875873280 == some .eq
def tn (x : Nat) : Nat := (((double.read x).toInt .zero).getD 0).toNat
/-- A whole number from 0 up to 2^32. -/
def wholeS (x : Nat) : Nat × Bool := if ge0 x && leT x then (tn x, FloatKind.f64.format.order (F (tn x)) x == some .eq) else (0, false)

theorem FT : F 4294967296 = 4751297606875873280 := by decide
theorem read_zero : double.read 0 = .number false 0 (-1074) := by decide
theorem cut_zero_le (s : Bool) (m f K : Nat) (h : m ≤ K * 2 ^ f) : Toward.zero.cut s m f ≤ K := by
  unfold Toward.cut
  simp only [Nat.one_shiftLeft, Bool.toNat_false, Nat.add_zero]
  by_cases hf : f ≤ m.log2 + 2
  · rw [Nat.min_eq_left hf]
    exact Nat.div_le_of_le_mul (by rw [Nat.mul_comm]; exact h)
  · rw [Nat.min_eq_right (by omega)]
    have : m < 2 ^ (m.log2 + 2) := Nat.lt_of_lt_of_le Nat.lt_log2_self (Nat.pow_le_pow_right (by decide) (by omega))
    rw [Nat.div_eq_of_lt this]
    exact Nat.zero_le _
theorem toInt_range (x : Nat) (h1 : ge0 x = true) (h2 : leT x = true) : ∃ n : Nat, (double.read x).toInt .zero = some (n : Int) ∧ n ≤ 4294967296 := by
  obtain ⟨M, d, hT, hM⟩ := read_F 4294967296 (by decide)
  rw [FT] at hT
  unfold ge0 FloatKind.format Format.order at h1
  unfold leT FloatKind.format Format.order at h2
  rw [read_zero] at h1
  rw [hT] at h2
  generalize double.read x = D at *
  cases D with
  | nan s t => simp [Datum.order] at h1
  | infinity s => cases s <;> simp [Datum.order] at h1 h2
  | number s m e =>
    simp only [Datum.order, signed, Bool.false_eq_true, if_false, Nat.shiftLeft_eq, Nat.zero_mul] at h1 h2
    have hs : s = true → m = 0 := by
      rintro rfl
      simp only [if_true] at h1
      generalize (e - min e (-1074)).toNat = k at h1
      by_cases hm : m = 0
      · exact hm
      · exfalso
        have : 0 < m * 2 ^ k := Nat.mul_pos (by omega) (Nat.pow_pos (by decide))
        have hc : compare (-((m * 2 ^ k : Nat) : Int)) 0 = .lt := Int.compare_eq_lt.2 (by omega)
        rw [Int.natCast_zero, hc] at h1
        simp at h1
    by_cases hst : s = true
    · obtain rfl := hs hst
      subst hst
      refine ⟨0, ?_, by omega⟩
      simp [Datum.toInt, Datum.integral, Toward.cut, signed]
    · have hsf : s = false := by simpa using hst
      subst hsf
      simp only [Bool.false_eq_true, if_false] at h2
      have hle : ((m * 2 ^ (e - min e (-(d : Int))).toNat : Nat) : Int) ≤ ((M * 2 ^ (-(d : Int) - min e (-(d : Int))).toNat : Nat) : Int) := by
        rcases Int.lt_trichotomy ((m * 2 ^ (e - min e (-(d : Int))).toNat : Nat) : Int) ((M * 2 ^ (-(d : Int) - min e (-(d : Int))).toNat : Nat) : Int) with h | h | h
        · omega
        · omega
        · rw [Int.compare_eq_gt.2 h] at h2
          simp at h2
      have hle' : m * 2 ^ (e - min e (-(d : Int))).toNat ≤ M * 2 ^ (-(d : Int) - min e (-(d : Int))).toNat := by exact_mod_cast hle
      refine ⟨Toward.zero.cut false (m <<< e.toNat) (-e).toNat, by simp [Datum.toInt, Datum.integral, signed], ?_⟩
      refine cut_zero_le _ _ _ _ ?_
      rw [Nat.shiftLeft_eq]
      subst hM
      generalize hK : (4294967296 : Nat) = K at hle' ⊢
      by_cases he : 0 ≤ e
      · obtain ⟨k, rfl⟩ := Int.eq_ofNat_of_zero_le he
        rw [show min (k : Int) (-(d : Int)) = -(d : Int) by omega, show ((k : Int) - -(d : Int)).toNat = k + d by omega, show (-(d : Int) - -(d : Int)).toNat = 0 by omega, Nat.pow_zero, Nat.mul_one, Nat.pow_add, ← Nat.mul_assoc] at hle'
        rw [show ((k : Int)).toNat = k from rfl, show (-(k : Int)).toNat = 0 by omega, Nat.pow_zero, Nat.mul_one]
        exact Nat.le_of_mul_le_mul_right hle' (Nat.pow_pos (by decide))
      · obtain ⟨f, hf⟩ : ∃ f : Nat, e = -(f : Int) := ⟨(-e).toNat, by omega⟩
        subst hf
        rw [show (-(f : Int)).toNat = 0 by omega, show (- -(f : Int)).toNat = f by omega, Nat.pow_zero, Nat.mul_one]
        rcases Nat.le_total f d with hfd | hfd
        · rw [show min (-(f : Int)) (-(d : Int)) = -(d : Int) by omega, show (-(f : Int) - -(d : Int)).toNat = d - f by omega, show (-(d : Int) - -(d : Int)).toNat = 0 by omega, Nat.pow_zero, Nat.mul_one] at hle'
          have e1 : K * 2 ^ d = K * 2 ^ f * 2 ^ (d - f) := by rw [Nat.mul_assoc, ← Nat.pow_add, show f + (d - f) = d by omega]
          rw [e1] at hle'
          exact Nat.le_of_mul_le_mul_right hle' (Nat.pow_pos (by decide))
        · rw [show min (-(f : Int)) (-(d : Int)) = -(f : Int) by omega, show (-(f : Int) - -(f : Int)).toNat = 0 by omega, show (-(d : Int) - -(f : Int)).toNat = f - d by omega, Nat.pow_zero, Nat.mul_one, Nat.mul_assoc, ← Nat.pow_add, show d + (f - d) = f by omega] at hle'
          exact hle'
theorem tn_F (n : Nat) (h : n < 9007199254740992) : tn (F n) = n := by
  unfold tn; rw [toInt_F n h]; rfl
theorem wholeS_F (n : Nat) (h : n ≤ 4294967296) : wholeS (F n) = (n, true) := by
  have o1 : FloatKind.f64.format.order (F n) 0 = some (compare n 0) := by rw [← F0]; exact order_F n 0 (by omega) (by decide)
  have o2 : FloatKind.f64.format.order (F n) 4751297606875873280 = some (compare n 4294967296) := by rw [← FT]; exact order_F n _ (by omega) (by decide)
  have g1 : ge0 (F n) = true := by
    unfold ge0; rw [o1]
    rcases Nat.eq_zero_or_pos n with rfl | hp
    · rw [Nat.compare_eq_eq.2 rfl]; rfl
    · rw [Nat.compare_eq_gt.2 hp]; rfl
  have g2 : leT (F n) = true := by
    unfold leT; rw [o2]
    rcases Nat.lt_or_ge n 4294967296 with hp | hp
    · rw [Nat.compare_eq_lt.2 hp]; rfl
    · rw [Nat.compare_eq_eq.2 (by omega)]; rfl
  unfold wholeS
  rw [g1, g2, tn_F n (by omega), order_same n (by omega)]
  rfl
theorem wholeS_le (x : Nat) : (wholeS x).1 ≤ 4294967296 := by
  unfold wholeS
  by_cases h : (ge0 x && leT x) = true
  · rw [if_pos h]
    rw [Bool.and_eq_true] at h
    obtain ⟨n, h1, h2⟩ := toInt_range x h.1 h.2
    show tn x ≤ _
    unfold tn; rw [h1]; exact h2
  · rw [if_neg h]; exact Nat.zero_le _

theorem toInt_val (x : Nat) (h : (ge0 x && leT x) = true) : floatToIntVal .f64 x .u64 = some (tn x : Int) ∧ tn x ≤ 4294967296 := by
  rw [Bool.and_eq_true] at h
  obtain ⟨n, h1, h2⟩ := toInt_range x h.1 h.2
  have e : tn x = n := by unfold tn; rw [h1]; rfl
  rw [e]
  refine ⟨?_, h2⟩
  unfold floatToIntVal FloatKind.decode
  rw [show FloatKind.f64.format = double from rfl, h1]
  have h3 : IntKind.u64.min ≤ (n : Int) ∧ (n : Int) ≤ IntKind.u64.max := by
    simp [IntKind.min, IntKind.max, IntKind.signed, IntKind.bits]; omega
  simp only [h3, and_self, if_true]

set_option maxRecDepth 100000 in
theorem whole58 (x : Nat) (w : World) : Calls Try.prog 58 #[.float .f64 x] w fun e w' => e = .returned (.tuple #[.int .u64 ((wholeS x).1 : Nat), .bool (wholeS x).2]) ∧ w = w' := by
  by_cases h : (ge0 x && leT x) = true
  · obtain ⟨hv, hle⟩ := toInt_val x h
    have e1 : wholeS x = (tn x, FloatKind.f64.format.order (F (tn x)) x == some .eq) := by unfold wholeS; rw [if_pos h]
    rw [e1]
    rw [Bool.and_eq_true] at h
    obtain ⟨h1, h2⟩ := h
    unfold ge0 at h1
    unfold leT at h2
    have hcv := fun (w : World) => run_convert_float_int (P := Try.prog) w 33 29 .f64 .u64 x (tn x) (by rw [Try.underlying33]; rfl) Try.underlying29 hv
    clear hv e1
    go_enter Try.func58, Try.ntmps58
    go_wp2_with fail
    go_ret2
    exact ⟨rfl, rfl⟩
  · have e1 : wholeS x = (0, false) := by unfold wholeS; rw [if_neg h]
    rw [e1]
    cases h1 : ge0 x
    · unfold ge0 at h1
      go_enter Try.func58, Try.ntmps58
      go_wp2_with fail
      go_ret2
      exact ⟨rfl, rfl⟩
    · have h2 : leT x = false := by simpa [h1] using h
      unfold ge0 at h1
      unfold leT at h2
      clear h
      go_enter Try.func58, Try.ntmps58
      go_wp2_with fail
      go_ret2
      exact ⟨rfl, rfl⟩

/-- The block at a place. -/
def blockS (re im per : Nat) : Nat × Bool :=
  if (wholeS re).2 && (wholeS im).2 && decide ((wholeS im).1 < per) && decide ((wholeS re).1 * per + (wholeS im).1 < 4294967296) then ((wholeS re).1 * per + (wholeS im).1, true) else (0, false)

theorem blockS_F (q i per : Nat) (h1 : i < per) (h2 : q * per + i < 4294967296) (hq : q ≤ 4294967296) (hp : per < 4294967296) : blockS (F q) (F i) per = (q * per + i, true) := by
  unfold blockS
  rw [wholeS_F q hq, wholeS_F i (by omega)]
  simp [h1, h2]
theorem blockS_of {re im per r i : Nat} {rb ib : Bool} (h1 : wholeS re = (r, rb)) (h2 : wholeS im = (i, ib)) :
    blockS re im per = if rb && ib && decide (i < per) && decide (r * per + i < 4294967296) then (r * per + i, true) else (0, false) := by
  unfold blockS; rw [h1, h2]

set_option maxRecDepth 100000 in
theorem block_any (re im per : Nat) (w : World) (hp : per < 4294967296) : Calls Try.prog 17 #[.complex .f64 re im, .int .u32 per] w fun e w' => e = .returned (.tuple #[.int .u32 ((blockS re im per).1 : Nat), .bool (blockS re im per).2]) ∧ w = w' := by
  have hr := wholeS_le re
  have hi := wholeS_le im
  have cr := whole58 re w
  have ci := whole58 im w
  obtain ⟨r, rb, hR⟩ : ∃ r rb, wholeS re = (r, rb) := ⟨_, _, rfl⟩
  obtain ⟨i, ib, hI⟩ : ∃ r rb, wholeS im = (r, rb) := ⟨_, _, rfl⟩
  have hB := blockS_of (per := per) hR hI
  rw [hR] at hr cr
  rw [hI] at hi ci
  simp only at hr hi cr ci
  clear hR hI
  have CR := Lib.hid cr
  have CI := Lib.hid ci
  clear cr ci
  generalize blockS re im per = B at *
  cases rb
  · obtain rfl : B = (0, false) := hB
    go_enter Try.func17, Try.ntmps17
    go_wp2_with fail
    refine CR.out.mono ?_
    rintro e w1 ⟨rfl, rfl⟩
    go_wp2_with fail
    refine CI.out.mono ?_
    rintro e w1 ⟨rfl, rfl⟩
    go_wp2_with fail
    go_ret2
    exact ⟨rfl, rfl⟩
  cases ib
  · obtain rfl : B = (0, false) := hB
    go_enter Try.func17, Try.ntmps17
    go_wp2_with fail
    refine CR.out.mono ?_
    rintro e w1 ⟨rfl, rfl⟩
    go_wp2_with fail
    refine CI.out.mono ?_
    rintro e w1 ⟨rfl, rfl⟩
    go_wp2_with fail
    go_ret2
    exact ⟨rfl, rfl⟩
  by_cases h1 : i < per
  · have hmul : r * per ≤ 4294967296 * 4294967295 := Nat.mul_le_mul hr (by omega)
    have hw1 : IntKind.u64.wrap ((r : Int) * (per : Int)) = ((r * per : Nat) : Int) := by rw [← Int.natCast_mul]; exact IntWalk.u64_in _ (by omega)
    have HM := Lib.hid hmul
    clear hmul
    generalize r * per = q at *
    by_cases h2 : q + i < 4294967296
    · obtain rfl : B = (q + i, true) := by rw [hB]; simp [h1, h2]
      clear hB
      go_enter Try.func17, Try.ntmps17
      go_wp2_with fail
      refine CR.out.mono ?_
      rintro e w1 ⟨rfl, rfl⟩
      go_wp2_with fail
      refine CI.out.mono ?_
      rintro e w1 ⟨rfl, rfl⟩
      go_wp2_with fail
      go_ret2
      exact ⟨rfl, rfl⟩
    · obtain rfl : B = (0, false) := by rw [hB]; simp [h2]
      clear hB
      have h3 : q ≤ 18446744069414584320 := HM.out
      go_enter Try.func17, Try.ntmps17
      go_wp2_with fail
      refine CR.out.mono ?_
      rintro e w1 ⟨rfl, rfl⟩
      go_wp2_with fail
      refine CI.out.mono ?_
      rintro e w1 ⟨rfl, rfl⟩
      go_wp2_with fail
      go_ret2
      exact ⟨rfl, rfl⟩
  · obtain rfl : B = (0, false) := by rw [hB]; simp [h1]
    clear hB
    go_enter Try.func17, Try.ntmps17
    go_wp2_with fail
    refine CR.out.mono ?_
    rintro e w1 ⟨rfl, rfl⟩
    go_wp2_with fail
    refine CI.out.mono ?_
    rintro e w1 ⟨rfl, rfl⟩
    go_wp2_with fail
    go_ret2
    exact ⟨rfl, rfl⟩
end Go.Proofs.Ytimdaioojnohmaa
