/-
  Plain: a request cut at the borders of chunks.
-/
import Derived.Test.YtimdaioojnohmaaFloat
namespace Go.Proofs.Ytimdaioojnohmaa

/-- A part: its chunk, its block of it, how many blocks, how many lie ahead. -/
structure CPart where
  ch : Nat
  bl : Nat
  n : Nat
  off : Nat
def pcells (p : CPart) : List Value := [.complex .f64 (F p.ch) (F p.bl), .int .u32 p.n, .int .u32 p.off]
def rcells (p : CPart) : List Value := [.int .u64 p.ch, .int .u64 p.bl, .int .u64 p.n, .int .u64 p.off]
def piece (per most a c off : Nat) : Nat := min (per - (a + off) % per) (min most (c - off))
def cut (per most a c off : Nat) : List CPart :=
  if _h : off < c ∧ 0 < piece per most a c off then ⟨(a + off) / per, (a + off) % per, piece per most a c off, off⟩ :: cut per most a c (off + piece per most a c off) else []
termination_by c - off
decreasing_by omega
def split (a c per most : Nat) : List CPart := if per = 0 ∨ most = 0 ∨ 4294967296 < a + c then [] else if (cut per most a c 0).length ≤ 4096 then cut per most a c 0 else []
theorem piece_pos {per most a c off : Nat} (hp : 0 < per) (hm : 0 < most) (h : off < c) : 0 < piece per most a c off := by
  have := Nat.mod_lt (a + off) hp
  unfold piece; omega
theorem piece_le {per most a c off : Nat} (h : off < c) : off + piece per most a c off ≤ c := by unfold piece; omega
theorem cut_step {per most a c off : Nat} (hp : 0 < per) (hm : 0 < most) (h : off < c) :
    cut per most a c off = ⟨(a + off) / per, (a + off) % per, piece per most a c off, off⟩ :: cut per most a c (off + piece per most a c off) := by
  rw [cut, dif_pos ⟨h, piece_pos hp hm h⟩]
theorem cut_end {per most a c off : Nat} (h : c ≤ off) : cut per most a c off = [] := by
  rw [cut, dif_neg (by omega)]
theorem flat_snoc {α β : Type} (f : α → List β) (l : List α) (x : α) : (l ++ [x]).flatMap f = l.flatMap f ++ f x := by simp
theorem flat_len {α β : Type} (f : α → List β) (k : Nat) (h : ∀ x, (f x).length = k) (l : List α) : (l.flatMap f).length = l.length * k := by
  induction l with
  | nil => simp
  | cons x l ih => simp [h, ih, Nat.add_mul, Nat.add_comm]
/-- What stands in a row of rows. -/
theorem flat_get {α β : Type} (f : α → List β) (k : Nat) (h : ∀ x, (f x).length = k) (l : List α) (i j : Nat) (hi : i < l.length) (hj : j < k) : (l.flatMap f)[i * k + j]? = (f l[i])[j]? := by
  induction l generalizing i with
  | nil => simp at hi
  | cons x l ih =>
    cases i with
    | zero =>
      rw [List.flatMap_cons, List.getElem?_append_left (by rw [h]; omega)]
      simp
    | succ i =>
      rw [List.flatMap_cons, List.getElem?_append_right (by rw [h, Nat.add_mul]; omega), h]
      rw [show (i + 1) * k + j - k = i * k + j by rw [Nat.add_mul]; omega]
      exact ih i (by simpa using hi)
end Go.Proofs.Ytimdaioojnohmaa
