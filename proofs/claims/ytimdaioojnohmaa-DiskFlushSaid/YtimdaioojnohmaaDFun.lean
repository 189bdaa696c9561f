/-
  The small functions of the program's disk walked.
-/
import Derived.Test.YtimdaioojnohmaaDMem
import Derived.Test.YtimdaioojnohmaaSplits
import Derived.Test.YtimdaioojnohmaaQParts
namespace Go.Proofs.Ytimdaioojnohmaa
open Go.RowKit

theorem dnone_nil (w : World) : Calls Try.prog 68 #[.pointer none] w fun e w' => e = .returned (.bool true) ∧ w = w' := by
  go_enter Try.func68, Try.ntmps68
  go_wp2_with fail
  go_ret
  exact ⟨rfl, rfl⟩
theorem dnone_at (g per : Nat) (w : World) (h : w.cell? ⟨g, 1, none⟩ = some (.int .u32 (per : Nat))) : Calls Try.prog 68 #[.pointer (some ⟨g, 0, none⟩)] w fun e w' => e = .returned (.bool (decide (per = 0))) ∧ w = w' := by
  by_cases h0 : per = 0
  · subst h0
    go_enter Try.func68, Try.ntmps68
    go_wp2_with fail
    go_ret
    exact ⟨rfl, rfl⟩
  · have h1 : ((per : Int) == 0) = false := beq_eq_false_iff_ne.2 (by omega)
    have HD := Lib.hid (decide_eq_false h0)
    clear h0
    go_enter Try.func68, Try.ntmps68
    go_wp2_with fail
    go_ret
    exact ⟨ret_bool HD.out.symm, rfl⟩
theorem dblocks_nil (w : World) : Calls Try.prog 27 #[.pointer none] w fun e w' => e = .returned (.int .u32 0) ∧ w = w' := by
  go_enter Try.func27, Try.ntmps27
  go_wp2_with fail
  go_ret
  exact ⟨rfl, rfl⟩
theorem dblocks_at (g : Nat) (n : Int) (w : World) (h : w.cell? ⟨g, 2, none⟩ = some (.int .u32 n)) : Calls Try.prog 27 #[.pointer (some ⟨g, 0, none⟩)] w fun e w' => e = .returned (.int .u32 n) ∧ w = w' := by
  go_enter Try.func27, Try.ntmps27
  go_wp2_with fail
  go_ret
  exact ⟨rfl, rfl⟩
theorem dtasks_nil (w : World) : Calls Try.prog 28 #[.pointer none] w fun e w' => e = .returned (.int .u64 0) ∧ w = w' := by
  go_enter Try.func28, Try.ntmps28
  go_wp2_with fail
  go_ret
  exact ⟨rfl, rfl⟩
theorem dtasks_at (g : Nat) (n : Int) (w : World) (h : w.cell? ⟨g, 5, none⟩ = some (.int .u64 n)) : Calls Try.prog 28 #[.pointer (some ⟨g, 0, none⟩)] w fun e w' => e = .returned (.int .u64 n) ∧ w = w' := by
  go_enter Try.func28, Try.ntmps28
  go_wp2_with fail
  go_ret
  exact ⟨rfl, rfl⟩

theorem fits_any (per blocks : Nat) (A : Option Addr) (n c : Nat) (w : World) (hp : per < 4294967296) (hb : blocks < 4294967296) (hn : n ≤ 140737488355328) : Calls Try.prog 59 #[.int .u32 per, .int .u32 blocks, .slice A n c] w fun e w' => e = .returned (.bool (dfit per blocks n)) ∧ w = w' := by
  by_cases h1 : 1 ≤ per
  · by_cases h2 : per ≤ 64
    · by_cases h3 : 1 ≤ blocks
      · obtain ⟨m, hm⟩ : ∃ m, m = blocks - 1 := ⟨_, rfl⟩
        obtain ⟨d, hd⟩ : ∃ d, d = m / per := ⟨_, rfl⟩
        have hm1 : (blocks : Int) - 1 = (m : Nat) := by omega
        have hm2 := IntWalk.u32_in (m : Int) (by omega)
        have hdm : d ≤ m := by rw [hd]; exact Nat.div_le_self _ _
        have hq : (m : Int).tdiv (per : Int) = (d : Nat) := by rw [hd]; rfl
        have hp0 : ((per : Int) == 0) = false := beq_eq_false_iff_ne.2 (by omega)
        have hd2 := IntWalk.u64_in ((d : Int) + 1) (by omega)
        have hd3 := IntWalk.u64_in (d : Int) (by omega)
        have hn3 := IntWalk.u64_in (n : Int) (by omega)
        have hd4 := IntWalk.u32_in (d : Int) (by omega)
        have hE : dfit per blocks n = (n == d + 1) := by unfold dfit; rw [decide_eq_true h1, decide_eq_true h2, decide_eq_true h3, ← hm, ← hd]; rfl
        have HE := Lib.hid hE
        have e1 : decide ((1 : Int) ≤ (per : Int)) = true := by simp; omega
        have e2 : decide ((per : Int) ≤ 64) = true := by simp; omega
        have e3 : decide ((1 : Int) ≤ (blocks : Int)) = true := by simp; omega
        have hx : ((n : Int) == (d : Int) + 1) = (n == d + 1) := by
          rw [Bool.eq_iff_iff, beq_iff_eq, beq_iff_eq]; omega
        have HX := Lib.hid hx
        clear hE hm hd hdm hx hp hb hn
        go_enter Try.func59, Try.ntmps59
        go_wp2_with fail
        go_ret
        refine ⟨ret_bool ?_, rfl⟩
        rw [HE.out, ← HX.out]
      · have hE : dfit per blocks n = false := by unfold dfit; rw [decide_eq_false h3]; simp
        have HE := Lib.hid hE
        have e1 : decide ((1 : Int) ≤ (per : Int)) = true := by simp; omega
        have e2 : decide ((per : Int) ≤ 64) = true := by simp; omega
        have e3 : decide ((1 : Int) ≤ (blocks : Int)) = false := by simp; omega
        clear hE
        go_enter Try.func59, Try.ntmps59
        go_wp2_with fail
        go_ret
        exact ⟨ret_bool HE.out.symm, rfl⟩
    · have hE : dfit per blocks n = false := by unfold dfit; rw [decide_eq_false h2]; simp
      have HE := Lib.hid hE
      have e1 : decide ((1 : Int) ≤ (per : Int)) = true := by simp; omega
      have e2 : decide ((per : Int) ≤ 64) = false := by simp; omega
      clear hE
      go_enter Try.func59, Try.ntmps59
      go_wp2_with fail
      go_ret
      exact ⟨ret_bool HE.out.symm, rfl⟩
  · have hE : dfit per blocks n = false := by unfold dfit; rw [decide_eq_false h1]; simp
    have HE := Lib.hid hE
    have e1 : decide ((1 : Int) ≤ (per : Int)) = false := by simp; omega
    clear hE
    go_enter Try.func59, Try.ntmps59
    go_wp2_with fail
    go_ret
    exact ⟨ret_bool HE.out.symm, rfl⟩

theorem end_of (a c : Nat) (w : World) (ha : a < 4294967296) (hc : c < 4294967296) : Calls Try.prog 56 #[.agg #[.int .u32 a, .int .u32 c]] w fun e w' => e = .returned (.int .u64 ((a + c : Nat) : Int)) ∧ Keep No w w' := by
  have h1 := IntWalk.u64_in (a : Int) (by omega)
  have h2 := IntWalk.u64_in (c : Int) (by omega)
  have h3 := IntWalk.u64_in ((a : Int) + (c : Int)) (by omega)
  clear ha hc
  go_enter Try.func56, Try.ntmps56
  go_wp2_with fail
  go_ret
  exact ⟨ret_int (by simp), (Keep.refl _ _).alloc _⟩
theorem good_any (a c b : Nat) (w : World) (ha : a < 4294967296) (hc : c < 4294967296) (hb : b < 4294967296) : Calls Try.prog 89 #[.agg #[.int .u32 a, .int .u32 c], .int .u32 b] w fun e w' => e = .returned (.bool (decide (0 < c ∧ a + c ≤ b))) ∧ Keep No w w' := by
  have ka : Keep No w (w.alloc (.cells #[.int .u32 (a : Nat), .int .u32 (c : Nat)] 24)) := (Keep.refl _ _).alloc _
  by_cases h0 : 0 < c
  · have HE := Lib.hid (end_of a c (w.alloc (.cells #[.int .u32 (a : Nat), .int .u32 (c : Nat)] 24)) ha hc)
    have h3 := IntWalk.u64_in (b : Int) (by omega)
    have e1 : decide ((0 : Int) < (c : Int)) = true := by simp; omega
    obtain ⟨s, hs⟩ : ∃ s, s = a + c := ⟨_, rfl⟩
    rw [← hs] at HE ⊢
    have HD : Hid (decide (0 < c ∧ s ≤ b) = decide (s ≤ b)) := by show _ = _; rw [decide_eq_decide]; simp [h0]
    clear ha hc hb hs
    go_enter Try.func89, Try.ntmps89
    go_wp2_with fail
    refine HE.out.mono ?_
    rintro e w1 ⟨rfl, k1⟩
    go_wp2_with fail
    go_ret
    refine ⟨?_, ka.trans k1⟩
    rw [HD.out]
    first | rfl | (exact ret_bool (by rw [decide_eq_decide]; omega))
  · obtain rfl : c = 0 := by omega
    have HD : Hid (decide (0 < 0 ∧ a + 0 ≤ b) = false) := by show _ = _; simp
    clear ha hc hb h0
    go_enter Try.func89, Try.ntmps89
    go_wp2_with fail
    go_ret
    exact ⟨ret_bool HD.out.symm, ka⟩
set_option maxRecDepth 100000 in
theorem slice_nil (b o n c : Nat) (w : World) : Sem.run Try.prog (binOp BinOp.eql 41 (Value.slice (some ⟨b, o, none⟩) n c) (Value.slice none 0 0)) w = .ok (.bool false) w := by
  kernel_rfl
set_option maxRecDepth 100000 in
theorem clone_any (v : Value) (l : List Nat) (w : World) (h : Rd w v l.length (l.map u64v)) (hne : l ≠ []) (hl : l.length ≤ 1048576) : Calls Try.prog 60 #[v] w fun e w' => ∃ r, e = .returned r ∧ New64 w w' r l ∧ Keep No w w' := by
  obtain ⟨b, o, c, rfl, hc, -⟩ := h.at_ 0 (by cases l <;> simp_all)
  have hs : Sl w (.slice (some ⟨b, o, none⟩) l.length c) l.length (l.map u64v) := by
    obtain ⟨A, c', hv, hc', hx⟩ := h
    injection hv with hA _ hcc
    subst hA hcc
    refine .inr ⟨b, o, c, rfl, hc, fun j u hj => ?_⟩
    obtain ⟨b1, o1, e, hcell⟩ := hx j u hj
    cases e
    exact hcell
  have hs1 : Sl (w.alloc (.cells #[] 29)) (.slice (some ⟨b, o, none⟩) l.length c) l.length (l.map u64v) := hs.keep ((Keep.refl No w).alloc _) (fun _ _ h => h)
  have hown : (w.alloc (.cells #[] 29)).ownsRow 0 29 1 (.slice (some ⟨w.heap.size, 0, none⟩) 0 0) 0 [] := ⟨rfl, .inr ⟨w.heap.size, 0, #[], rfl, Nat.zero_le _, blk_at _ _ rfl, Nat.le_refl _, Nat.zero_le _, rfl, rfl⟩⟩
  have hone := u64v_one l
  have h63 : 0 + l.length ≤ maxLen := by simp only [maxLen]; omega
  have hll : (l.map u64v).length = l.length * 1 := by simp
  have hby : (0 + l.length) * 8 ≤ 140737488355328 := by omega
  have heq := slice_nil b o l.length c w
  clear h hs hl hne
  go_enter Try.func60, Try.ntmps60
  go_wp2_with (at_builtin; refine wpList_app rfl _ _ 41 rfl 29 _ 1 8 Try.underlying41 Try.info29 rfl (by decide) _ 0 _ hown rfl _ l.length (l.map u64v) hs1 rfl hll hone hby h63 ?_; intro A' k' w' ho' hk' hn'; simp only [Nat.zero_add, List.nil_append] at ho' hn' ⊢)
  go_ret
  refine ⟨_, rfl, ⟨A', k', rfl, ho', fun b' hb' => ?_⟩, ((Keep.refl No w).alloc _).fresh hk' (fun i hi => ?_)⟩
  · rcases hn' b' hb' with e | e
    · simp [Value.ownBlock] at e; omega
    · have := e.1; rw [World.size_alloc] at this; omega
  · simp [Own, Value.ownBlock] at hi; omega
end Go.Proofs.Ytimdaioojnohmaa
