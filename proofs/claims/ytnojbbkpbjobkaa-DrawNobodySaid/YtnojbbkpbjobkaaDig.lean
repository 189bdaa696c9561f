/-
  Plain law: the digits of a number below another one, and the number out of them.
-/
import Derived.Test.YtnojbbkpbjobkaaSrc
namespace Go.Proofs.Ytnojbbkpbjobkaa

def val (a : Nat) (l : List UInt8) : Nat := l.foldl (fun a c => a * 256 + c.toNat) a
def wd (m : Nat) : Nat := if _h : 0 < m then wd (m / 256) + 1 else 0
termination_by m
decreasing_by omega
theorem wd_pos (m : Nat) (h : 0 < m) : wd m = wd (m / 256) + 1 := by rw [wd, dif_pos h]
theorem wd_zero : wd 0 = 0 := by rw [wd, dif_neg (by omega)]
def dig (m x : Nat) (acc : List UInt8) : List UInt8 := if _h : 0 < m then dig (m / 256) (x / 256) (UInt8.ofNat x :: acc) else acc
termination_by m
decreasing_by omega
theorem dig_pos (m x : Nat) (acc : List UInt8) (h : 0 < m) : dig m x acc = dig (m / 256) (x / 256) (UInt8.ofNat x :: acc) := by rw [dig, dif_pos h]
theorem dig_zero (x : Nat) (acc : List UInt8) : dig 0 x acc = acc := by rw [dig, dif_neg (by omega)]

theorem numX_all (m : Nat) : ∀ (X : Nat) (l : List UInt8), l.length = wd m → numX m X l = (val X l, []) := by
  induction m using Nat.strongRecOn with
  | _ m ih =>
    intro X l hl
    by_cases h : 0 < m
    · rw [wd_pos m h] at hl
      cases l with
      | nil => simp at hl
      | cons c l =>
        rw [numX_pos m X _ h, ih (m / 256) (by omega) _ _ (by simpa using hl)]
        rfl
    · obtain rfl : m = 0 := by omega
      rw [wd_zero] at hl
      obtain rfl := List.eq_nil_of_length_eq_zero hl
      rw [numX_zero]
      rfl
theorem numX_nil (m : Nat) : numX m 0 [] = (0, []) := by
  induction m using Nat.strongRecOn with
  | _ m ih =>
    by_cases h : 0 < m
    · rw [numX_pos m 0 _ h]
      exact ih (m / 256) (by omega)
    · obtain rfl : m = 0 := by omega
      exact numX_zero 0 []
theorem val_acc (l : List UInt8) : ∀ a, val a l = a * 256 ^ l.length + val 0 l := by
  induction l with
  | nil => intro a; simp [val]
  | cons c l ih =>
    intro a
    show val (a * 256 + c.toNat) l = _ + val (0 * 256 + c.toNat) l
    rw [ih, ih (0 * 256 + c.toNat), List.length_cons, Nat.pow_succ, Nat.zero_mul, Nat.zero_add, Nat.add_mul, Nat.mul_assoc, Nat.mul_comm 256, Nat.add_assoc]
theorem dig_len (m : Nat) : ∀ x acc, (dig m x acc).length = wd m + acc.length := by
  induction m using Nat.strongRecOn with
  | _ m ih =>
    intro x acc
    by_cases h : 0 < m
    · rw [dig_pos m x acc h, ih (m / 256) (by omega), wd_pos m h, List.length_cons]; omega
    · obtain rfl : m = 0 := by omega
      rw [dig_zero, wd_zero]; omega
theorem dig_val (m : Nat) : ∀ x acc, val 0 (dig m x acc) = (x % 256 ^ wd m) * 256 ^ acc.length + val 0 acc := by
  induction m using Nat.strongRecOn with
  | _ m ih =>
    intro x acc
    by_cases h : 0 < m
    · rw [dig_pos m x acc h, ih (m / 256) (by omega), wd_pos m h, List.length_cons]
      have e : val 0 (UInt8.ofNat x :: acc) = (x % 256) * 256 ^ acc.length + val 0 acc := by
        show val (0 * 256 + (UInt8.ofNat x).toNat) acc = _
        rw [val_acc, Nat.zero_mul, Nat.zero_add]
        simp
      rw [e, Nat.pow_succ, Nat.pow_succ, Nat.mul_comm (256 ^ wd (m / 256)) 256, Nat.mod_mul, Nat.mul_comm (256 ^ acc.length) 256, ← Nat.mul_assoc, ← Nat.add_assoc, ← Nat.add_mul]
      congr 2
      omega
    · obtain rfl : m = 0 := by omega
      rw [dig_zero, wd_zero, Nat.pow_zero, Nat.mod_one]; omega
theorem lt_wd (m : Nat) : m < 256 ^ wd m := by
  induction m using Nat.strongRecOn with
  | _ m ih =>
    by_cases h : 0 < m
    · have := ih (m / 256) (by omega)
      rw [wd_pos m h, Nat.pow_succ]; omega
    · obtain rfl : m = 0 := by omega
      rw [wd_zero]; decide
theorem val_take (l : List UInt8) (k : Nat) : val 0 (l.take k) ≤ val 0 l := by
  have e : val 0 l = val (val 0 (l.take k)) (l.drop k) := by
    unfold val
    rw [← List.foldl_append, List.take_append_drop]
  rw [e, val_acc (l.drop k)]
  have : 0 < 256 ^ (l.drop k).length := Nat.pow_pos (by omega)
  have := Nat.le_mul_of_pos_right (val 0 (l.take k)) this
  omega
theorem val_succ (l : List UInt8) (k : Nat) (h : k < l.length) : val 0 (l.take (k + 1)) = val 0 (l.take k) * 256 + l[k].toNat := by
  rw [List.take_succ_eq_append_getElem h]
  unfold val
  rw [List.foldl_append]
  rfl
/-- What is drawn of a number's own digits is that number. -/
theorem numN_dig (n x : Nat) (h : x < n) : numN n (dig (n - 1) x []) = (x, []) := by
  have hv := dig_val (n - 1) x []
  have hx : x % 256 ^ wd (n - 1) = x := Nat.mod_eq_of_lt (by have := lt_wd (n - 1); omega)
  unfold numN
  by_cases hn : (n : Int) < 2
  · obtain rfl : n = 1 := by omega
    obtain rfl : x = 0 := by omega
    rw [if_pos hn, dig_zero]
  · have e : ((n : Int) - 1).toNat = n - 1 := by omega
    rw [if_neg hn, e, numX_all (n - 1) 0 _ (by rw [dig_len]; rfl), hv, hx]
    have e2 : x % n = x := Nat.mod_eq_of_lt h
    simp [val, e2]
theorem val_dig (n x : Nat) (h : x < n) : val 0 (dig (n - 1) x []) = x := by
  rw [dig_val, Nat.mod_eq_of_lt (by have := lt_wd (n - 1); omega)]
  simp [val]
theorem numN_nil (n : Int) : numN n [] = (0, []) := by
  unfold numN
  split
  · rfl
  · rw [numX_nil]; simp
theorem wd_le (m : Nat) (h : m < 18446744073709551616) : wd m ≤ 8 := by
  have key : ∀ k m, m < 256 ^ k → wd m ≤ k := by
    intro k
    induction k with
    | zero => intro m hm; obtain rfl : m = 0 := by simpa using hm
              rw [wd_zero]; omega
    | succ k ih =>
      intro m hm
      by_cases h : 0 < m
      · rw [wd_pos m h]; have := ih (m / 256) (by rw [Nat.pow_succ] at hm; omega); omega
      · obtain rfl : m = 0 := by omega
        rw [wd_zero]; omega
  exact key 8 m h
end Go.Proofs.Ytnojbbkpbjobkaa
