/-
  Whole numbers below 2^53 as floats: they compare as the numbers, and come back as the numbers.
  Plain: a request cut at the borders of chunks.
-/
import Derived.WalkLawsBesides
namespace Go.Proofs.Ytimdaioojnohmaa
open Ieee

def F (n : Nat) : Nat := floatOfInt .f64 (n : Int)

theorem even_none (n : Nat) : Toward.even.cut false n 0 = n := by
  simp [Toward.cut, Nat.mod_one]
theorem double_least : double.leastPlace = -1074 := by decide
theorem double_binade : double.binade = 4503599627370496 := by decide
theorem double_inf : double.infRung = 9218868437227405312 := by decide
theorem double_sign : double.signWeight = 9223372036854775808 := by decide
theorem write_pos (n L K : Nat) (h0 : n ≠ 0) (hL : n.log2 = L) (hl : L ≤ 52) (hK : n * 2 ^ (52 - L) = K) (hlt : K < 9007199254740992) : F n = (L + 1022) * 4503599627370496 + K := by
  unfold F floatOfInt FloatKind.nearest FloatKind.encode FloatKind.format Format.write Format.nearest
  have e0 : decide ((n : Int) < 0) = false := by simp
  have e1 : max (0 + (L : Int) - ((52 : Nat) : Int)) (-1074) = (L : Int) - 52 := by omega
  have e2 : ((L : Int) - 52 - 0).toNat = 0 := by omega
  have e3 : (0 - ((L : Int) - 52)).toNat = 52 - L := by omega
  have e4 : ((L : Int) - 52 - -1074).toNat = L + 1022 := by omega
  have e5 : double.fractionBits = 52 := rfl
  simp only [e0, Int.natAbs_natCast, if_neg h0, double_least, double_binade, double_inf, e5, hL, e1, e2, e3, e4, Nat.shiftLeft_eq, hK, even_none, Format.word]
  simp only [Bool.false_eq_true, if_false]
  clear hK hL e0 e1 e2 e3 e4 e5
  omega
theorem read_pos (L K : Nat) (hl : L ≤ 52) (h1 : 4503599627370496 ≤ K) (h2 : K < 9007199254740992) : double.read ((L + 1022) * 4503599627370496 + K) = .number false K (-((52 - L : Nat) : Int)) := by
  unfold Format.read
  rw [double_sign, double_binade, double_inf, double_least]
  have f1 : ((L + 1022) * 4503599627370496 + K) / 9223372036854775808 % 2 = 0 := by omega
  have f2 : ((L + 1022) * 4503599627370496 + K) % 9223372036854775808 = (L + 1022) * 4503599627370496 + K := by omega
  have f3 : ((L + 1022) * 4503599627370496 + K) / 4503599627370496 = L + 1023 := by omega
  have f4 : 4503599627370496 + ((L + 1022) * 4503599627370496 + K) % 4503599627370496 = K := by omega
  have f5 : -1074 + ((L + 1023 - 1 : Nat) : Int) = -((52 - L : Nat) : Int) := by omega
  have f6 : ¬ ((L + 1022) * 4503599627370496 + K < 4503599627370496) := by omega
  have f7 : (L + 1022) * 4503599627370496 + K < 9218868437227405312 := by omega
  simp only [f1, f2, f3, f4, f5, if_neg f6, if_pos f7]
  rfl
theorem read_F (n : Nat) (h : n < 9007199254740992) : ∃ (m : Nat) (d : Nat), double.read (F n) = .number false m (-(d : Int)) ∧ m = n * 2 ^ d := by
  by_cases h0 : n = 0
  · subst h0
    obtain ⟨d, hd⟩ : ∃ d : Nat, 1074 = d := ⟨_, rfl⟩
    exact ⟨0, d, by rw [← hd]; decide, (Nat.zero_mul _).symm⟩
  · have hl : n.log2 ≤ 52 := by
      have := (Nat.log2_lt h0 (k := 53)).2 (by simpa using h)
      omega
    have h1 : 2 ^ n.log2 ≤ n := Nat.log2_self_le h0
    have h2 : n < 2 ^ (n.log2 + 1) := Nat.lt_log2_self
    have hK1 : n * 2 ^ (52 - n.log2) < 2 ^ (n.log2 + 1) * 2 ^ (52 - n.log2) := Nat.mul_lt_mul_of_pos_right h2 (Nat.pow_pos (by decide))
    have hK2 : 2 ^ n.log2 * 2 ^ (52 - n.log2) ≤ n * 2 ^ (52 - n.log2) := Nat.mul_le_mul_right _ h1
    rw [← Nat.pow_add, show n.log2 + 1 + (52 - n.log2) = 53 by omega] at hK1
    rw [← Nat.pow_add, show n.log2 + (52 - n.log2) = 52 by omega] at hK2
    refine ⟨n * 2 ^ (52 - n.log2), 52 - n.log2, ?_, rfl⟩
    rw [write_pos n n.log2 _ h0 rfl hl rfl hK1]
    exact read_pos _ _ hl hK2 hK1
theorem order_F (a b : Nat) (ha : a < 9007199254740992) (hb : b < 9007199254740992) : double.order (F a) (F b) = some (compare a b) := by
  obtain ⟨m, d, h1, rfl⟩ := read_F a ha
  obtain ⟨k, e, h2, rfl⟩ := read_F b hb
  unfold Format.order
  rw [h1, h2]
  unfold Datum.order
  simp only [signed, Bool.false_eq_true, if_false, Nat.shiftLeft_eq]
  congr 1
  have key : ∀ D : Nat, d ≤ D → e ≤ D → min (-(d : Int)) (-(e : Int)) = -(D : Int) → compare (((a * 2 ^ d * 2 ^ (-(d : Int) - min (-(d : Int)) (-(e : Int))).toNat : Nat) : Int)) ((b * 2 ^ e * 2 ^ (-(e : Int) - min (-(d : Int)) (-(e : Int))).toNat : Nat) : Int) = compare a b := by
    intro D h1 h2 h3
    rw [h3, show (-(d : Int) - -(D : Int)).toNat = D - d by omega, show (-(e : Int) - -(D : Int)).toNat = D - e by omega, Nat.mul_assoc, Nat.mul_assoc, ← Nat.pow_add, ← Nat.pow_add,
      show d + (D - d) = D by omega, show e + (D - e) = D by omega]
    have hp : 0 < 2 ^ D := Nat.pow_pos (by decide)
    generalize 2 ^ D = P at hp
    rcases Nat.lt_trichotomy a b with h | h | h
    · rw [Nat.compare_eq_lt.2 h]
      exact Int.compare_eq_lt.2 (by exact_mod_cast Nat.mul_lt_mul_of_pos_right h hp)
    · subst h
      rw [Nat.compare_eq_eq.2 rfl]
      exact Int.compare_eq_eq.2 rfl
    · rw [Nat.compare_eq_gt.2 h]
      exact Int.compare_eq_gt.2 (by exact_mod_cast Nat.mul_lt_mul_of_pos_right h hp)
  exact key (max d e) (by omega) (by omega) (by omega)
theorem toInt_F (n : Nat) (h : n < 9007199254740992) : (double.read (F n)).toInt .zero = some (n : Int) := by
  obtain ⟨m, d, h1, rfl⟩ := read_F n h
  rw [h1]
  unfold Datum.toInt Datum.integral
  have e1 : (-(d : Int)).toNat = 0 := by omega
  have e2 : (- -(d : Int)).toNat = d := by omega
  simp only [e1, e2, Nat.shiftLeft_zero, signed, Bool.false_eq_true, if_false]
  congr 2
  unfold Toward.cut
  simp only [Nat.one_shiftLeft]
  by_cases h0 : n = 0
  · subst h0; simp
  · have hle : d ≤ (n * 2 ^ d).log2 := (Nat.le_log2 (by have := Nat.pow_pos (n := d) (show 0 < 2 by decide); intro e; rcases Nat.mul_eq_zero.1 e with e | e <;> omega)).2 (Nat.le_mul_of_pos_left _ (by omega))
    rw [show min d ((n * 2 ^ d).log2 + 2) = d by omega, Nat.mul_div_cancel _ (Nat.pow_pos (by decide))]
    rfl
end Go.Proofs.Ytimdaioojnohmaa

namespace Go.Proofs.Ytimdaioojnohmaa

/-- A part: its chunk, its block of it, how many blocks, how many lie ahead. -/
structure CPart where
  ch : Nat
  bl : Nat
  n : Nat
  off : Nat
def pcells (p : CPart) : List Value := [.complex .f64 (F p.ch) (F p.bl), .int .u32 p.n, .int .u32 p.off]
def rcells (p : CPart) : List Value := [.int .u64 p.ch, .int .u64 p.bl, .int .u64 p.n, .int .u64 p.off]
def piece (per most a c off : Nat) : Nat := min (per - (a + off) % per) (min most (c - off))
def cut (per most a c off : Nat) : List CPart :=
  if _h : off < c ∧ 0 < piece per most a c off then ⟨(a + off) / per, (a + off) % per, piece per most a c off, off⟩ :: cut per most a c (off + piece per most a c off) else []
termination_by c - off
decreasing_by omega
def split (a c per most : Nat) : List CPart := if per = 0 ∨ most = 0 ∨ 4294967296 < a + c then [] else if (cut per most a c 0).length ≤ 4096 then cut per most a c 0 else []
theorem piece_pos {per most a c off : Nat} (hp : 0 < per) (hm : 0 < most) (h : off < c) : 0 < piece per most a c off := by
  have := Nat.mod_lt (a + off) hp
  unfold piece; omega
theorem piece_le {per most a c off : Nat} (h : off < c) : off + piece per most a c off ≤ c := by unfold piece; omega
theorem cut_step {per most a c off : Nat} (hp : 0 < per) (hm : 0 < most) (h : off < c) :
    cut per most a c off = ⟨(a + off) / per, (a + off) % per, piece per most a c off, off⟩ :: cut per most a c (off + piece per most a c off) := by
  rw [cut, dif_pos ⟨h, piece_pos hp hm h⟩]
theorem cut_end {per most a c off : Nat} (h : c ≤ off) : cut per most a c off = [] := by
  rw [cut, dif_neg (by omega)]
theorem flat_snoc {α β : Type} (f : α → List β) (l : List α) (x : α) : (l ++ [x]).flatMap f = l.flatMap f ++ f x := by simp
theorem flat_len {α β : Type} (f : α → List β) (k : Nat) (h : ∀ x, (f x).length = k) (l : List α) : (l.flatMap f).length = l.length * k := by
  induction l with
  | nil => simp
  | cons x l ih => simp [h, ih, Nat.add_mul, Nat.add_comm]
/-- What stands in a row of rows. -/
theorem flat_get {α β : Type} (f : α → List β) (k : Nat) (h : ∀ x, (f x).length = k) (l : List α) (i j : Nat) (hi : i < l.length) (hj : j < k) : (l.flatMap f)[i * k + j]? = (f l[i])[j]? := by
  induction l generalizing i with
  | nil => simp at hi
  | cons x l ih =>
    cases i with
    | zero =>
      rw [List.flatMap_cons, List.getElem?_append_left (by rw [h]; omega)]
      simp
    | succ i =>
      rw [List.flatMap_cons, List.getElem?_append_right (by rw [h, Nat.add_mul]; omega), h]
      rw [show (i + 1) * k + j - k = i * k + j by rw [Nat.add_mul]; omega]
      exact ih i (by simpa using hi)
end Go.Proofs.Ytimdaioojnohmaa
