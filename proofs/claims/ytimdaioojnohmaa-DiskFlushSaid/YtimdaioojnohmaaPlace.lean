/-
  chart.Place, span.End, the closure of chart.Split, chart.whole walked.
-/
import Derived.Test.YtimdaioojnohmaaRows
import Derived.Test.YtimdaioojnohmaaMem
import Derived.Test.YtimdaioojnohmaaFloat
namespace Go.Proofs.Ytimdaioojnohmaa
open Go.RowKit

theorem end_any (a b : Nat) (w : World) (ha : a < 4294967296) (hb : b < 4294967296) : Calls Try.prog 56 #[.agg #[.int .u32 a, .int .u32 b]] w fun e w' =>
    e = .returned (.int .u64 ((a + b : Nat) : Int)) ∧ w.alloc (.cells #[.int .u32 a, .int .u32 b] 24) = w' := by
  go_enter Try.func56, Try.ntmps56
  go_wp2
  go_ret
  exact ⟨rfl, rfl⟩

theorem place_none (b : Nat) (w : World) : Calls Try.prog 37 #[.int .u32 b, .int .u32 0] w fun e w' =>
    e = .returned (.tuple #[.complex .f64 0 0, .bool false]) ∧ w = w' := by
  go_enter Try.func37, Try.ntmps37
  go_wp2
  go_ret2
  exact ⟨rfl, rfl⟩

theorem place_any (b p : Nat) (w : World) (hp : 0 < p) (hp2 : p < 4294967296) (hb : b < 4294967296) : Calls Try.prog 37 #[.int .u32 b, .int .u32 p] w fun e w' =>
    e = .returned (.tuple #[.complex .f64 (F (b / p)) (F (b % p)), .bool true]) ∧ ∃ n, w' = w.drewN n := by
  have hz : ((p : Int) == 0) = false := by simp; omega
  go_enter Try.func37, Try.ntmps37
  go_wp2_with fail
  go_quiet (fail)
  go_wp2_with fail
  go_ret2
  have e1 : (b : Int) / (p : Int) % 4294967296 = ((b / p : Nat) : Int) := by
    have : b / p ≤ b := Nat.div_le_self b p
    rw [← Int.natCast_ediv]
    generalize b / p = q at *
    omega
  refine ⟨?_, nq, rfl⟩
  rw [Ending.returned.injEq, Value.tuple.injEq]
  simp only [e1]
  rfl

theorem toU32_F (n : Nat) (h : n < 4294967296) : floatToIntVal .f64 (F n) .u32 = some (n : Int) := by
  have h1 := toInt_F n (by omega)
  unfold floatToIntVal FloatKind.decode FloatKind.format
  rw [h1]
  have h2 : IntKind.u32.min ≤ (n : Int) ∧ (n : Int) ≤ IntKind.u32.max := by
    simp [IntKind.min, IntKind.max, IntKind.signed, IntKind.bits]; omega
  simp only [h2, and_self, if_true]
theorem left_any (re i per most cnt off from_ g0 g1 g2 g3 : Nat) (w : World) (hi : i < per) (ho : off ≤ cnt) (hp : per < 4294967296) (hm : most < 4294967296) (hc : cnt < 4294967296)
    (h0 : w.heap[g0]? = some (.cells #[.int .u32 from_, .int .u32 cnt] 24 (0, 0))) (h1 : w.cell? ⟨g1, 0, none⟩ = some (.int .u32 per)) (h2 : w.cell? ⟨g2, 0, none⟩ = some (.int .u32 most)) (h3 : w.cell? ⟨g3, 0, none⟩ = some (.int .u32 off)) :
    Calls Try.prog 57 #[.complex .f64 re (F i), .pointer (some ⟨g1, 0, none⟩), .pointer (some ⟨g2, 0, none⟩), .pointer (some ⟨g0, 0, none⟩), .pointer (some ⟨g3, 0, none⟩)] w fun e w' =>
    e = .returned (.int .u32 ((min (per - i) (min most (cnt - off)) : Nat) : Int)) ∧ w = w' := by
  have h01 := (blk_cell h0 1).trans rfl
  have hcv := fun (w : World) => run_convert_float_int (P := Try.prog) w 33 22 .f64 .u32 (F i) i (by rw [Try.underlying33]; rfl) Try.underlying22 (toU32_F i (by omega))
  clear h0
  by_cases hx : (most : Int) < (per : Int) - (i : Int)
  all_goals
    go_enter Try.func57, Try.ntmps57
    go_wp2_with fail
    all_goals
      go_ret
      exact ⟨ret_int (by omega), rfl⟩
end Go.Proofs.Ytimdaioojnohmaa
