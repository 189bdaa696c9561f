/-
  Choices that no call made: Byte, Num; times, the iterator.
-/
import Derived.RangeFuncBox
import Derived.RangeFuncNested
import Derived.RangeFuncLeaves
import Derived.Shelf.Abstract
import Derived.OwnWalkIn
import Derived.TacticsInMore
import Derived.LoopNIn
import Derived.LoopIn
import Derived.Maps.AppendAt
import Derived.Test.YtnojbbkpbjobkaaDrawAll
namespace Go.Proofs.Ytnojbbkpbjobkaa
open Go.RowKit Go.Shelf

attribute [local go_sem] Oper.semAt_some

theorem byte_nobody (p : Option Addr) (w : World) (h : SrcP w p []) : Calls Try.prog 10 #[.pointer p] w fun e w' => e = .returned (.int .u8 0) ∧ w = w' := by
  have h0 := left_any p [] w h
  clear h
  go_enter Try.func10, Try.ntmps10
  go_wp2_with (go_at_call 8; refine h0.mono ?_; rintro e w' ⟨rfl, rfl⟩)
  go_ret
  exact ⟨rfl, rfl⟩
theorem num_nobody (p : Option Addr) (n : Int) (w : World) (h : SrcP w p []) (h1 : -9223372036854775808 ≤ n) (h2 : n ≤ 9223372036854775807) : Calls Try.prog 6 #[.pointer p, .int .i64 n] w fun e w' => e = .returned (.int .i64 0) ∧ w = w' := by
  by_cases hn : n < 2
  · clear h
    go_enter Try.func6, Try.ntmps6
    go_wp2_with (fail)
    go_ret
    exact ⟨rfl, rfl⟩
  · have hb := byte_nobody p w h
    have HB := Lib.hid hb
    clear h hb
    go_enter Try.func6, Try.ntmps6
    go_wp2_with (fail)
    go_loopw [5, 6] (fun x l wr => ∃ m : Nat, x = .int .u64 0 ∧ l = .int .i64 (m : Nat) ∧ w = wr) (fun _ l _ => (intOf l).toNat)
    case atStart => exact ⟨(n - 1).toNat, rfl, by rw [Int.toNat_of_nonneg (by omega)], rfl⟩
    case round =>
      obtain ⟨m, rfl, rfl, rfl⟩ := hrel
      by_cases h0 : 0 < m
      · go_wp2_with (go_at_call 10; refine HB.out.mono ?_; rintro e w' ⟨rfl, rfl⟩)
        refine ⟨⟨m / 256, rfl, by simp, trivial⟩, by simp [intOf]; omega⟩
      · obtain rfl : m = 0 := by omega
        go_wp2_with (fail)
        go_ret
        exact ⟨by simp, rfl⟩

/-- What a round keeps: all that lies below M, but the box B. -/
def KpB (B M : Nat) (W W' : World) : Prop := Keep (fun k => k = B ∨ M ≤ k) W W'
theorem KpB.t {B M : Nat} {a b c : World} (h : KpB B M a b) (k : KpB B M b c) : KpB B M a c := Keep.trans h k
theorem KpB.b {B M : Nat} {w : World} (hn : M ≤ w.heap.size) (W : World) (l : Nat) (o o' : Obj) (hl : w.heap.size ≤ l) (_ : W.heap[l]? = some o) (_ : o.isCells = false) (_ : o.isWalk = false) : KpB B M W (W.putObj l o') :=
  (Keep.refl _ W).grown (grownBy_putObj' W l o') (fun k e _ => by cases e; exact .inr (by omega))

set_option maxRecDepth 100000 in
set_option maxHeartbeats 4000000 in
/-- times: the function called as often as m says, each time the same number. -/
theorem times_bytes (n : Nat) (hn : 1 ≤ n) (l bn bf B M : Nat) (m c : Nat) (z : Int) (p : Option Addr) (hm : m = z.toNat) (hz : z ≤ 200) (hbn : bn < M ∧ bn ≠ B) (hbf : bf < M ∧ bf ≠ B) (W0 : World) (J Jx : List Unit → World → Prop)
    (hcall : ∀ W, KpB B M W0 W → Calls Try.prog 10 #[.pointer p] W fun e W' => e = .returned (.int .u8 (c : Nat)) ∧ W = W')
    (hY : ∀ (pre : List Unit) (x : Unit) (W : World), J pre W → pre.length < m → YieldAt Fence.wide (n - 1) Try.prog l #[.int .u8 (c : Nat)] W fun e W' =>
      (e = .returned (.bool true) ∧ J (pre ++ [x]) W' ∧ KpB B M W W') ∨ (e = .returned (.bool false) ∧ Jx (pre ++ [x]) W'))
    (hBn : W0.cell? ⟨bn, 0, none⟩ = some (.int .i64 z)) (hBf : W0.cell? ⟨bf, 0, none⟩ = some (.func (.func 10) #[.pointer p] #[])) (h0 : J [] W0) :
    CallsIn Fence.wide n Try.prog 19 #[.func (.yield l) #[] #[], .pointer (some ⟨bn, 0, none⟩), .pointer (some ⟨bf, 0, none⟩)] W0 fun e W' => (∃ v, e = .returned v) ∧
      ((∃ ys : List Unit, ys.length = m ∧ J ys W') ∨ (∃ pre : List Unit, pre.length ≤ m ∧ Jx pre W')) := by
  refine callsIn_of_wp Try.func19 rfl trivial ?_ rfl
  simp only [Try.ntmps19, List.size_toArray, List.length_cons, List.length_nil, Nat.reduceAdd, Nat.reduceSub, Array.replicate_succ, Array.replicate_zero, List.push_toArray, List.append_toArray, List.nil_append, List.cons_append]
  gi_wp2
  gi_loopw [4] (fun iv wr => ∃ (i : Nat) (pre : List Unit), i ≤ m ∧ pre.length = i ∧ iv = .int .i64 (i : Nat) ∧ J pre wr ∧ KpB B M W0 wr) (fun iv _ => m - (intOf iv).toNat)
  case atStart => exact ⟨0, [], Nat.zero_le _, rfl, rfl, h0, Keep.refl _ _⟩
  case round =>
    obtain ⟨i, pre, hi, hpl, rfl, hJ, hk⟩ := hrel
    have cn : wr.cell? ⟨bn, 0, none⟩ = some (.int .i64 z) := hk.cellSome hBn (by simp; omega)
    have cf : wr.cell? ⟨bf, 0, none⟩ = some (.func (.func 10) #[.pointer p] #[]) := hk.cellSome hBf (by simp; omega)
    by_cases hlt : i < m
    · have d1 : decide ((i : Int) < z) = true := by simp; omega
      have d2 : decide ((i : Int) < 65536) = true := by simp; omega
      have hc := hcall wr hk
      have hy0 := hY pre () wr hJ (by omega)
      have HJ := Lib.hid hJ
      clear hJ
      obtain ⟨fn, tmps, assign, body, hy, hR⟩ := hy0
      gi_wp2_with (refine ⟨trivial, ?_⟩; gi_at_call 10; refine (callsIn_wide.2 hc).mono ?_; rintro e w' ⟨rfl, rfl⟩)
      refine hR.mono ?_
      rintro e W3 (⟨rfl, hJ3, hk3⟩ | ⟨rfl, hJx3⟩)
      · gi_wp2
        exact ⟨⟨i + 1, pre ++ [()], by omega, by simp [hpl], by simp, hJ3, hk.t hk3⟩, by simp [intOf]; omega⟩
      · gi_wp2
        refine bodyPost_ret (results_none rfl _ _ _) rfl ?_
        exact ⟨⟨_, rfl⟩, .inr ⟨_, by simp; omega, hJx3⟩⟩
    · have d1 : decide ((i : Int) < z) = false := by simp; omega
      gi_wp2
      go_end0
      exact ⟨⟨_, rfl⟩, .inl ⟨pre, by omega, hJ⟩⟩
set_option maxRecDepth 100000 in
set_option maxHeartbeats 4000000 in
/-- times: the function called as often as m says, each time the same number. -/
theorem times_text (n : Nat) (hn : 1 ≤ n) (l bn bf B M : Nat) (m c : Nat) (z : Int) (bp : Nat) (hm : m = z.toNat) (hz : z ≤ 200) (hbn : bn < M ∧ bn ≠ B) (hbf : bf < M ∧ bf ≠ B) (W0 : World) (J Jx : List Unit → World → Prop)
    (hcall : ∀ W, KpB B M W0 W → Calls Try.prog 16 #[.pointer (some ⟨bp, 0, none⟩)] W fun e W' => e = .returned (.int .u8 (c : Nat)) ∧ W = W')
    (hY : ∀ (pre : List Unit) (x : Unit) (W : World), J pre W → pre.length < m → YieldAt Fence.wide (n - 1) Try.prog l #[.int .u8 (c : Nat)] W fun e W' =>
      (e = .returned (.bool true) ∧ J (pre ++ [x]) W' ∧ KpB B M W W') ∨ (e = .returned (.bool false) ∧ Jx (pre ++ [x]) W'))
    (hBn : W0.cell? ⟨bn, 0, none⟩ = some (.int .i64 z)) (hBf : W0.cell? ⟨bf, 0, none⟩ = some (.func (.func 16) #[] #[.pointer (some ⟨bp, 0, none⟩)])) (h0 : J [] W0) :
    CallsIn Fence.wide n Try.prog 19 #[.func (.yield l) #[] #[], .pointer (some ⟨bn, 0, none⟩), .pointer (some ⟨bf, 0, none⟩)] W0 fun e W' => (∃ v, e = .returned v) ∧
      ((∃ ys : List Unit, ys.length = m ∧ J ys W') ∨ (∃ pre : List Unit, pre.length ≤ m ∧ Jx pre W')) := by
  refine callsIn_of_wp Try.func19 rfl trivial ?_ rfl
  simp only [Try.ntmps19, List.size_toArray, List.length_cons, List.length_nil, Nat.reduceAdd, Nat.reduceSub, Array.replicate_succ, Array.replicate_zero, List.push_toArray, List.append_toArray, List.nil_append, List.cons_append]
  gi_wp2
  gi_loopw [4] (fun iv wr => ∃ (i : Nat) (pre : List Unit), i ≤ m ∧ pre.length = i ∧ iv = .int .i64 (i : Nat) ∧ J pre wr ∧ KpB B M W0 wr) (fun iv _ => m - (intOf iv).toNat)
  case atStart => exact ⟨0, [], Nat.zero_le _, rfl, rfl, h0, Keep.refl _ _⟩
  case round =>
    obtain ⟨i, pre, hi, hpl, rfl, hJ, hk⟩ := hrel
    have cn : wr.cell? ⟨bn, 0, none⟩ = some (.int .i64 z) := hk.cellSome hBn (by simp; omega)
    have cf : wr.cell? ⟨bf, 0, none⟩ = some (.func (.func 16) #[] #[.pointer (some ⟨bp, 0, none⟩)]) := hk.cellSome hBf (by simp; omega)
    by_cases hlt : i < m
    · have d1 : decide ((i : Int) < z) = true := by simp; omega
      have d2 : decide ((i : Int) < 65536) = true := by simp; omega
      have hc := hcall wr hk
      have hy0 := hY pre () wr hJ (by omega)
      have HJ := Lib.hid hJ
      clear hJ
      obtain ⟨fn, tmps, assign, body, hy, hR⟩ := hy0
      gi_wp2_with (refine ⟨trivial, ?_⟩; gi_at_call 16; refine (callsIn_wide.2 hc).mono ?_; rintro e w' ⟨rfl, rfl⟩)
      refine hR.mono ?_
      rintro e W3 (⟨rfl, hJ3, hk3⟩ | ⟨rfl, hJx3⟩)
      · gi_wp2
        exact ⟨⟨i + 1, pre ++ [()], by omega, by simp [hpl], by simp, hJ3, hk.t hk3⟩, by simp [intOf]; omega⟩
      · gi_wp2
        refine bodyPost_ret (results_none rfl _ _ _) rfl ?_
        exact ⟨⟨_, rfl⟩, .inr ⟨_, by simp; omega, hJx3⟩⟩
    · have d1 : decide ((i : Int) < z) = false := by simp; omega
      gi_wp2
      go_end0
      exact ⟨⟨_, rfl⟩, .inl ⟨pre, by omega, hJ⟩⟩
set_option maxRecDepth 100000 in
set_option maxHeartbeats 4000000 in
/-- times: the function called as often as m says, each time the same number. -/
theorem times_nums (n : Nat) (hn : 1 ≤ n) (l bn bf B M : Nat) (m c : Nat) (z : Int) (bp bq : Nat) (hm : m = z.toNat) (hz : z ≤ 200) (hbn : bn < M ∧ bn ≠ B) (hbf : bf < M ∧ bf ≠ B) (W0 : World) (J Jx : List Unit → World → Prop)
    (hcall : ∀ W, KpB B M W0 W → Calls Try.prog 18 #[.pointer (some ⟨bp, 0, none⟩), .pointer (some ⟨bq, 0, none⟩)] W fun e W' => e = .returned (.int .i64 (c : Nat)) ∧ W = W')
    (hY : ∀ (pre : List Unit) (x : Unit) (W : World), J pre W → pre.length < m → YieldAt Fence.wide (n - 1) Try.prog l #[.int .i64 (c : Nat)] W fun e W' =>
      (e = .returned (.bool true) ∧ J (pre ++ [x]) W' ∧ KpB B M W W') ∨ (e = .returned (.bool false) ∧ Jx (pre ++ [x]) W'))
    (hBn : W0.cell? ⟨bn, 0, none⟩ = some (.int .i64 z)) (hBf : W0.cell? ⟨bf, 0, none⟩ = some (.func (.func 18) #[] #[.pointer (some ⟨bp, 0, none⟩), .pointer (some ⟨bq, 0, none⟩)])) (h0 : J [] W0) :
    CallsIn Fence.wide n Try.prog 20 #[.func (.yield l) #[] #[], .pointer (some ⟨bn, 0, none⟩), .pointer (some ⟨bf, 0, none⟩)] W0 fun e W' => (∃ v, e = .returned v) ∧
      ((∃ ys : List Unit, ys.length = m ∧ J ys W') ∨ (∃ pre : List Unit, pre.length ≤ m ∧ Jx pre W')) := by
  refine callsIn_of_wp Try.func20 rfl trivial ?_ rfl
  simp only [Try.ntmps20, List.size_toArray, List.length_cons, List.length_nil, Nat.reduceAdd, Nat.reduceSub, Array.replicate_succ, Array.replicate_zero, List.push_toArray, List.append_toArray, List.nil_append, List.cons_append]
  gi_wp2
  gi_loopw [4] (fun iv wr => ∃ (i : Nat) (pre : List Unit), i ≤ m ∧ pre.length = i ∧ iv = .int .i64 (i : Nat) ∧ J pre wr ∧ KpB B M W0 wr) (fun iv _ => m - (intOf iv).toNat)
  case atStart => exact ⟨0, [], Nat.zero_le _, rfl, rfl, h0, Keep.refl _ _⟩
  case round =>
    obtain ⟨i, pre, hi, hpl, rfl, hJ, hk⟩ := hrel
    have cn : wr.cell? ⟨bn, 0, none⟩ = some (.int .i64 z) := hk.cellSome hBn (by simp; omega)
    have cf : wr.cell? ⟨bf, 0, none⟩ = some (.func (.func 18) #[] #[.pointer (some ⟨bp, 0, none⟩), .pointer (some ⟨bq, 0, none⟩)]) := hk.cellSome hBf (by simp; omega)
    by_cases hlt : i < m
    · have d1 : decide ((i : Int) < z) = true := by simp; omega
      have d2 : decide ((i : Int) < 65536) = true := by simp; omega
      have hc := hcall wr hk
      have hy0 := hY pre () wr hJ (by omega)
      have HJ := Lib.hid hJ
      clear hJ
      obtain ⟨fn, tmps, assign, body, hy, hR⟩ := hy0
      gi_wp2_with (refine ⟨trivial, ?_⟩; gi_at_call 18; refine (callsIn_wide.2 hc).mono ?_; rintro e w' ⟨rfl, rfl⟩)
      refine hR.mono ?_
      rintro e W3 (⟨rfl, hJ3, hk3⟩ | ⟨rfl, hJx3⟩)
      · gi_wp2
        exact ⟨⟨i + 1, pre ++ [()], by omega, by simp [hpl], by simp, hJ3, hk.t hk3⟩, by simp [intOf]; omega⟩
      · gi_wp2
        refine bodyPost_ret (results_none rfl _ _ _) rfl ?_
        exact ⟨⟨_, rfl⟩, .inr ⟨_, by simp; omega, hJx3⟩⟩
    · have d1 : decide ((i : Int) < z) = false := by simp; omega
      gi_wp2
      go_end0
      exact ⟨⟨_, rfl⟩, .inl ⟨pre, by omega, hJ⟩⟩
end Go.Proofs.Ytnojbbkpbjobkaa
