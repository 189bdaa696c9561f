/-
  The small functions of the program's disk walked.
  disk.New and (*Disk).add walked.
  A disk that no call made: each call walked.
-/
import Derived.Test.YtimdaioojnohmaaMDMem
import Derived.Test.YtimdaioojnohmaaMPlace
import Derived.Test.YtimdaioojnohmaaMQMap
import Derived.Deep.RegionHeld3
namespace Go.Proofs.Ytimdaioojnohmaa
open Go.RowKit

theorem dnone_nil (w : World) : Calls Try.prog 68 #[.pointer none] w fun e w' => e = .returned (.bool true) ∧ w = w' := by
  go_enter Try.func68, Try.ntmps68
  go_wp2_with fail
  go_ret
  exact ⟨rfl, rfl⟩
theorem dnone_at (g per : Nat) (w : World) (h : w.cell? ⟨g, 1, none⟩ = some (.int .u32 (per : Nat))) : Calls Try.prog 68 #[.pointer (some ⟨g, 0, none⟩)] w fun e w' => e = .returned (.bool (decide (per = 0))) ∧ w = w' := by
  by_cases h0 : per = 0
  · subst h0
    go_enter Try.func68, Try.ntmps68
    go_wp2_with fail
    go_ret
    exact ⟨rfl, rfl⟩
  · have h1 : ((per : Int) == 0) = false := beq_eq_false_iff_ne.2 (by omega)
    have HD := Lib.hid (decide_eq_false h0)
    clear h0
    go_enter Try.func68, Try.ntmps68
    go_wp2_with fail
    go_ret
    exact ⟨ret_bool HD.out.symm, rfl⟩
theorem dblocks_nil (w : World) : Calls Try.prog 27 #[.pointer none] w fun e w' => e = .returned (.int .u32 0) ∧ w = w' := by
  go_enter Try.func27, Try.ntmps27
  go_wp2_with fail
  go_ret
  exact ⟨rfl, rfl⟩
theorem dblocks_at (g : Nat) (n : Int) (w : World) (h : w.cell? ⟨g, 2, none⟩ = some (.int .u32 n)) : Calls Try.prog 27 #[.pointer (some ⟨g, 0, none⟩)] w fun e w' => e = .returned (.int .u32 n) ∧ w = w' := by
  go_enter Try.func27, Try.ntmps27
  go_wp2_with fail
  go_ret
  exact ⟨rfl, rfl⟩
theorem dtasks_nil (w : World) : Calls Try.prog 28 #[.pointer none] w fun e w' => e = .returned (.int .u64 0) ∧ w = w' := by
  go_enter Try.func28, Try.ntmps28
  go_wp2_with fail
  go_ret
  exact ⟨rfl, rfl⟩
theorem dtasks_at (g : Nat) (n : Int) (w : World) (h : w.cell? ⟨g, 5, none⟩ = some (.int .u64 n)) : Calls Try.prog 28 #[.pointer (some ⟨g, 0, none⟩)] w fun e w' => e = .returned (.int .u64 n) ∧ w = w' := by
  go_enter Try.func28, Try.ntmps28
  go_wp2_with fail
  go_ret
  exact ⟨rfl, rfl⟩

theorem fits_any (per blocks : Nat) (A : Option Addr) (n c : Nat) (w : World) (hp : per < 4294967296) (hb : blocks < 4294967296) (hn : n ≤ 140737488355328) : Calls Try.prog 59 #[.int .u32 per, .int .u32 blocks, .slice A n c] w fun e w' => e = .returned (.bool (dfit per blocks n)) ∧ w = w' := by
  by_cases h1 : 1 ≤ per
  · by_cases h2 : per ≤ 64
    · by_cases h3 : 1 ≤ blocks
      · obtain ⟨m, hm⟩ : ∃ m, m = blocks - 1 := ⟨_, rfl⟩
        obtain ⟨d, hd⟩ : ∃ d, d = m / per := ⟨_, rfl⟩
        have hm1 : (blocks : Int) - 1 = (m : Nat) := by omega
        have hm2 := IntWalk.u32_in (m : Int) (by omega)
        have hdm : d ≤ m := by rw [hd]; exact Nat.div_le_self _ _
        have hq : (m : Int).tdiv (per : Int) = (d : Nat) := by rw [hd]; rfl
        have hp0 : ((per : Int) == 0) = false := beq_eq_false_iff_ne.2 (by omega)
        have hd2 := IntWalk.u64_in ((d : Int) + 1) (by omega)
        have hd3 := IntWalk.u64_in (d : Int) (by omega)
        have hn3 := IntWalk.u64_in (n : Int) (by omega)
        have hd4 := IntWalk.u32_in (d : Int) (by omega)
        have hE : dfit per blocks n = (n == d + 1) := by unfold dfit; rw [decide_eq_true h1, decide_eq_true h2, decide_eq_true h3, ← hm, ← hd]; rfl
        have HE := Lib.hid hE
        have e1 : decide ((1 : Int) ≤ (per : Int)) = true := by simp; omega
        have e2 : decide ((per : Int) ≤ 64) = true := by simp; omega
        have e3 : decide ((1 : Int) ≤ (blocks : Int)) = true := by simp; omega
        have hx : ((n : Int) == (d : Int) + 1) = (n == d + 1) := by
          rw [Bool.eq_iff_iff, beq_iff_eq, beq_iff_eq]; omega
        have HX := Lib.hid hx
        clear hE hm hd hdm hx hp hb hn
        go_enter Try.func59, Try.ntmps59
        go_wp2_with fail
        go_ret
        refine ⟨ret_bool ?_, rfl⟩
        rw [HE.out, ← HX.out]
      · have hE : dfit per blocks n = false := by unfold dfit; rw [decide_eq_false h3]; simp
        have HE := Lib.hid hE
        have e1 : decide ((1 : Int) ≤ (per : Int)) = true := by simp; omega
        have e2 : decide ((per : Int) ≤ 64) = true := by simp; omega
        have e3 : decide ((1 : Int) ≤ (blocks : Int)) = false := by simp; omega
        clear hE
        go_enter Try.func59, Try.ntmps59
        go_wp2_with fail
        go_ret
        exact ⟨ret_bool HE.out.symm, rfl⟩
    · have hE : dfit per blocks n = false := by unfold dfit; rw [decide_eq_false h2]; simp
      have HE := Lib.hid hE
      have e1 : decide ((1 : Int) ≤ (per : Int)) = true := by simp; omega
      have e2 : decide ((per : Int) ≤ 64) = false := by simp; omega
      clear hE
      go_enter Try.func59, Try.ntmps59
      go_wp2_with fail
      go_ret
      exact ⟨ret_bool HE.out.symm, rfl⟩
  · have hE : dfit per blocks n = false := by unfold dfit; rw [decide_eq_false h1]; simp
    have HE := Lib.hid hE
    have e1 : decide ((1 : Int) ≤ (per : Int)) = false := by simp; omega
    clear hE
    go_enter Try.func59, Try.ntmps59
    go_wp2_with fail
    go_ret
    exact ⟨ret_bool HE.out.symm, rfl⟩

theorem end_of (a c : Nat) (w : World) (ha : a < 4294967296) (hc : c < 4294967296) : Calls Try.prog 56 #[.agg #[.int .u32 a, .int .u32 c]] w fun e w' => e = .returned (.int .u64 ((a + c : Nat) : Int)) ∧ Keep No w w' := by
  have h1 := IntWalk.u64_in (a : Int) (by omega)
  have h2 := IntWalk.u64_in (c : Int) (by omega)
  have h3 := IntWalk.u64_in ((a : Int) + (c : Int)) (by omega)
  clear ha hc
  go_enter Try.func56, Try.ntmps56
  go_wp2_with fail
  go_ret
  exact ⟨ret_int (by simp), (Keep.refl _ _).alloc _⟩
theorem good_any (a c b : Nat) (w : World) (ha : a < 4294967296) (hc : c < 4294967296) (hb : b < 4294967296) : Calls Try.prog 89 #[.agg #[.int .u32 a, .int .u32 c], .int .u32 b] w fun e w' => e = .returned (.bool (decide (0 < c ∧ a + c ≤ b))) ∧ Keep No w w' := by
  have ka : Keep No w (w.alloc (.cells #[.int .u32 (a : Nat), .int .u32 (c : Nat)] 24)) := (Keep.refl _ _).alloc _
  by_cases h0 : 0 < c
  · have HE := Lib.hid (end_of a c (w.alloc (.cells #[.int .u32 (a : Nat), .int .u32 (c : Nat)] 24)) ha hc)
    have h3 := IntWalk.u64_in (b : Int) (by omega)
    have e1 : decide ((0 : Int) < (c : Int)) = true := by simp; omega
    obtain ⟨s, hs⟩ : ∃ s, s = a + c := ⟨_, rfl⟩
    rw [← hs] at HE ⊢
    have HD : Hid (decide (0 < c ∧ s ≤ b) = decide (s ≤ b)) := by show _ = _; rw [decide_eq_decide]; simp [h0]
    clear ha hc hb hs
    go_enter Try.func89, Try.ntmps89
    go_wp2_with fail
    refine HE.out.mono ?_
    rintro e w1 ⟨rfl, k1⟩
    go_wp2_with fail
    go_ret
    refine ⟨?_, ka.trans k1⟩
    rw [HD.out]
    first | rfl | (exact ret_bool (by rw [decide_eq_decide]; omega))
  · obtain rfl : c = 0 := by omega
    have HD : Hid (decide (0 < 0 ∧ a + 0 ≤ b) = false) := by show _ = _; simp
    clear ha hc hb h0
    go_enter Try.func89, Try.ntmps89
    go_wp2_with fail
    go_ret
    exact ⟨ret_bool HD.out.symm, ka⟩
set_option maxRecDepth 100000 in
theorem slice_nil (b o n c : Nat) (w : World) : Sem.run Try.prog (binOp BinOp.eql 41 (Value.slice (some ⟨b, o, none⟩) n c) (Value.slice none 0 0)) w = .ok (.bool false) w := by
  kernel_rfl
set_option maxRecDepth 100000 in
theorem clone_any (v : Value) (l : List Nat) (w : World) (h : Rd w v l.length (l.map u64v)) (hne : l ≠ []) (hl : l.length ≤ 1048576) : Calls Try.prog 60 #[v] w fun e w' => ∃ r, e = .returned r ∧ New64 w w' r l ∧ Keep No w w' := by
  obtain ⟨b, o, c, rfl, hc, -⟩ := h.at_ 0 (by cases l <;> simp_all)
  have hs : Sl w (.slice (some ⟨b, o, none⟩) l.length c) l.length (l.map u64v) := by
    obtain ⟨A, c', hv, hc', hx⟩ := h
    injection hv with hA _ hcc
    subst hA hcc
    refine .inr ⟨b, o, c, rfl, hc, fun j u hj => ?_⟩
    obtain ⟨b1, o1, e, hcell⟩ := hx j u hj
    cases e
    exact hcell
  have hs1 : Sl (w.alloc (.cells #[] 29)) (.slice (some ⟨b, o, none⟩) l.length c) l.length (l.map u64v) := hs.keep ((Keep.refl No w).alloc _) (fun _ _ h => h)
  have hown : (w.alloc (.cells #[] 29)).ownsRow 0 29 1 (.slice (some ⟨w.heap.size, 0, none⟩) 0 0) 0 [] := ⟨rfl, .inr ⟨w.heap.size, 0, #[], rfl, Nat.zero_le _, blk_at _ _ rfl, Nat.le_refl _, Nat.zero_le _, rfl, rfl⟩⟩
  have hone := u64v_one l
  have h63 : 0 + l.length ≤ maxLen := by simp only [maxLen]; omega
  have hll : (l.map u64v).length = l.length * 1 := by simp
  have hby : (0 + l.length) * 8 ≤ 140737488355328 := by omega
  have heq := slice_nil b o l.length c w
  clear h hs hl hne
  go_enter Try.func60, Try.ntmps60
  go_wp2_with (at_builtin; refine wpList_app rfl _ _ 41 rfl 29 _ 1 8 Try.underlying41 Try.info29 rfl (by decide) _ 0 _ hown rfl _ l.length (l.map u64v) hs1 rfl hll hone hby h63 ?_; intro A' k' w' ho' hk' hn'; simp only [Nat.zero_add, List.nil_append] at ho' hn' ⊢)
  go_ret
  refine ⟨_, rfl, ⟨A', k', rfl, ho', fun b' hb' => ?_⟩, ((Keep.refl No w).alloc _).fresh hk' (fun i hi => ?_)⟩
  · rcases hn' b' hb' with e | e
    · simp [Value.ownBlock] at e; omega
    · have := e.1; rw [World.size_alloc] at this; omega
  · simp [Own, Value.ownBlock] at hi; omega
end Go.Proofs.Ytimdaioojnohmaa

namespace Go.Proofs.Ytimdaioojnohmaa
open Go.RowKit Go.Maps
variable {X : Nat → Prop}

theorem dnew_bad (per blocks n : Nat) (a : Int) (v : Value) (l : List Nat) (w : World) (hp : per < 4294967296) (hb : blocks < 4294967296) (hn : n < 18446744073709551616) (ha : -9223372036854775808 ≤ a ∧ a ≤ 9223372036854775807)
    (h : Rd w v l.length (l.map u64v)) (hl : l.length ≤ 1048576) (hbad : (a < 1 ∨ 64 < a ∨ n = 0) ∨ dfit per blocks l.length = false) :
    Calls Try.prog 21 #[.int .u32 per, .int .u32 blocks, v, .int .i64 a, .int .u64 n] w fun e w' => e = .returned (.pointer none) ∧ Keep No w w' := by
  obtain ⟨A, c, rfl, hlc, -⟩ := id h
  by_cases h1 : a < 1 ∨ 64 < a ∨ n = 0
  · have HN := Lib.hid (qnew_bad a n w h1 ha.1 ha.2)
    clear ha hn h h1 hbad hp hb
    go_enter Try.func21, Try.ntmps21
    go_wp2_with fail
    refine HN.out.mono ?_
    rintro e w1 ⟨rfl, rfl⟩
    go_wp2_with fail
    go_ret
    exact ⟨rfl, Keep.refl _ _⟩
  · have hf : dfit per blocks l.length = false := hbad.resolve_left h1
    obtain ⟨most, rfl⟩ := Int.eq_ofNat_of_zero_le (show 0 ≤ a by omega)
    have HN := Lib.hid (qnew_any most n w (by omega) (by omega) (by omega) hn)
    have hft := fun W => fits_any per blocks A l.length c W hp hb (by omega)
    rw [hf] at hft
    have HF := Lib.hid hft
    clear ha hn h h1 hbad hp hb hft hf
    go_enter Try.func21, Try.ntmps21
    go_wp2_with fail
    refine HN.out.mono ?_
    rintro e w1 ⟨rfl, -, hw⟩
    have k1 : Keep No w w1 := by rw [hw]; exact (Keep.refl _ _).alloc _
    clear hw
    go_wp2_with fail
    refine (HF.out _).mono ?_
    rintro e w2 ⟨rfl, rfl⟩
    go_wp2_with fail
    go_ret
    exact ⟨rfl, k1⟩
theorem dnew_any (per blocks n most : Nat) (v : Value) (l : List Nat) (w : World) (hp : per < 4294967296) (hb : blocks < 4294967296) (hn : n < 18446744073709551616) (h0 : 0 < most) (h64 : most ≤ 64) (hn0 : 0 < n)
    (h : Rd w v l.length (l.map u64v)) (hl : l.length ≤ 1048576) (hf : dfit per blocks l.length = true) (hX : ∀ k, X k → k < w.heap.size) :
    Calls Try.prog 21 #[.int .u32 per, .int .u32 blocks, v, .int .i64 most, .int .u64 n] w fun e w' => ∃ g, e = .returned (.pointer (some ⟨g, 0, none⟩)) ∧ DAt X w.heap.size w'.heap.size w' g ⟨per, blocks, l, most, n, [], []⟩ ∧ Keep No w w' := by
  obtain ⟨A, c, rfl, hlc, -⟩ := id h
  have hne : l ≠ [] := by
    rintro rfl
    unfold dfit at hf
    simp at hf
  have HN := Lib.hid (qnew_any most n w h0 h64 hn0 hn)
  have hft := fun W => fits_any per blocks A l.length c W hp hb (by omega)
  rw [hf] at hft
  have HF := Lib.hid hft
  have H := Lib.hid h
  have H0 := Lib.hid h0
  have HL := Lib.hid hl
  have HNE := Lib.hid hne
  have hmm := @run_makeMap Try.prog
  clear h hp hb hn h0 h64 hn0 hft hf hl hne
  go_enter Try.func21, Try.ntmps21
  go_wp2_with fail
  refine HN.out.mono ?_
  rintro e w1 ⟨rfl, hq, hw⟩
  have k1 : Keep No w w1 := by rw [hw]; exact (Keep.refl _ _).alloc _
  have HQ := Lib.hid hq
  clear hw hq
  go_wp2_with fail
  refine (HF.out _).mono ?_
  rintro e w2 ⟨rfl, rfl⟩
  have HC := Lib.hid (clone_any _ l w1 (H.out.keep k1) HNE.out HL.out)
  go_wp2_with fail
  refine HC.out.mono ?_
  rintro e w2 ⟨r, rfl, hr, k2⟩
  obtain ⟨A2, c2, rfl, ho2, hA2⟩ := hr
  have HO2 := Lib.hid ho2
  have HX2 : Hid (∀ k, (Value.slice A2 l.length c2).ownBlock = some k → ¬ X k) := fun k hk e => by
    have a1 := hA2 k hk
    have a2 := hX k e
    have a3 := k1.size
    omega
  clear ho2 hA2
  go_wp2_with fail
  go_ret
  have k3 : Keep No w2 ((w2.alloc (.map #[] 0)).alloc (.cells #[.pointer (some ⟨w.heap.size, 0, none⟩), .int .u32 (per : Nat), .int .u32 (blocks : Nat), .slice A2 l.length c2, .map (some w2.heap.size), .int .u64 0] 71)) := ((Keep.refl _ _).alloc _).alloc _
  have hs := (k1.trans k2).size
  refine ⟨_, rfl, ⟨w.heap.size, _, w2.heap.size, fun _ => none, fun _ => w2.heap.size, fun _ => 0, blk_at _ _ (by simp), by omega, (HQ.out.no k2).no k3, H0.out, ⟨⟨A2, c2, rfl, own_keep HO2.out k3 (fun _ _ h => h)⟩, HX2.out⟩,
    (MapP.made w2).no ((Keep.refl _ _).alloc _), ⟨hs, fun e => absurd (hX _ e) (Nat.not_lt.2 hs)⟩, fun _ _ => rfl, fun i hi => absurd hi (by simp), fun _ => Nat.le_refl _, hs, by simp; omega, Nat.le_refl _⟩, (k1.trans k2).trans k3⟩
end Go.Proofs.Ytimdaioojnohmaa

namespace Go.Proofs.Ytimdaioojnohmaa
open Go.RowKit

/-- No disk, or one of noughts. -/
def NoDisk (w : World) (p : Value) : Prop := p = .pointer none ∨ ∃ g cs, p = .pointer (some ⟨g, 0, none⟩) ∧ w.heap[g]? = some (.cells cs 71 (0, 0)) ∧ cs[1]? = some (.int .u32 0) ∧ cs[2]? = some (.int .u32 0) ∧ cs[5]? = some (.int .u64 0)
theorem NoDisk.keep {w w' : World} {p : Value} (h : NoDisk w p) (hk : Keep No w w') : NoDisk w' p := by
  rcases h with h | ⟨g, cs, h1, h2, r⟩
  · exact .inl h
  · exact .inr ⟨g, cs, h1, hk.blk h2 (fun h => h), r⟩
theorem nd_none (w : World) (p : Value) (h : NoDisk w p) : Calls Try.prog 68 #[p] w fun e w' => e = .returned (.bool true) ∧ w = w' := by
  rcases h with rfl | ⟨g, cs, rfl, hb, h1, -, -⟩
  · exact dnone_nil w
  · exact dnone_at g 0 w ((blk_cell hb 1).trans h1)
theorem nd_blocks (w : World) (p : Value) (h : NoDisk w p) : Calls Try.prog 27 #[p] w fun e w' => e = .returned (.int .u32 0) ∧ w = w' := by
  rcases h with rfl | ⟨g, cs, rfl, hb, -, h1, -⟩
  · exact dblocks_nil w
  · exact dblocks_at g 0 w ((blk_cell hb 2).trans h1)
theorem nd_tasks (w : World) (p : Value) (h : NoDisk w p) : Calls Try.prog 28 #[p] w fun e w' => e = .returned (.int .u64 0) ∧ w = w' := by
  rcases h with rfl | ⟨g, cs, rfl, hb, -, -, h1⟩
  · exact dtasks_nil w
  · exact dtasks_at g 0 w ((blk_cell hb 5).trans h1)
theorem nd_write (w : World) (p : Value) (a now : Int) (s : ByteArray) (h : NoDisk w p) (_hs : s.size < 4611686018427387904) : Calls Try.prog 31 #[p, .int .u32 a, .string s, .int .u64 now] w fun e w' => e = .returned (.tuple #[.int .u64 0, .slice none 0 0, .int .i64 1]) ∧ Keep No w w' := by
  have hn := Lib.hid (nd_none w p h)
  clear h
  go_enter Try.func31, Try.ntmps31
  go_wp2_with fail
  refine hn.out.mono ?_
  rintro e w1 ⟨rfl, rfl⟩
  go_wp2_with fail
  refine bodyPost_ret (results_tmp3 rfl _ _ _) rfl ?_
  exact ⟨rfl, Keep.refl _ _⟩
theorem nd_read (w : World) (p : Value) (a c now : Int) (h : NoDisk w p) : Calls Try.prog 32 #[p, .int .u32 a, .int .u32 c, .int .u64 now] w fun e w' => e = .returned (.tuple #[.int .u64 0, .slice none 0 0, .int .i64 1]) ∧ Keep No w w' := by
  have hn := Lib.hid (nd_none w p h)
  clear h
  go_enter Try.func32, Try.ntmps32
  go_wp2_with fail
  refine hn.out.mono ?_
  rintro e w1 ⟨rfl, rfl⟩
  go_wp2_with fail
  refine bodyPost_ret (results_tmp3 rfl _ _ _) rfl ?_
  exact ⟨rfl, Keep.refl _ _⟩
theorem nd_flush (w : World) (p : Value) (now : Int) (h : NoDisk w p) : Calls Try.prog 33 #[p, .int .u64 now] w fun e w' => e = .returned (.tuple #[.int .u64 0, .int .i64 1]) ∧ Keep No w w' := by
  have hn := Lib.hid (nd_none w p h)
  clear h
  go_enter Try.func33, Try.ntmps33
  go_wp2_with fail
  refine hn.out.mono ?_
  rintro e w1 ⟨rfl, rfl⟩
  go_wp2_with fail
  go_ret2
  exact ⟨rfl, Keep.refl _ _⟩
theorem nd_state (w : World) (p : Value) (id : Int) (h : NoDisk w p) : Calls Try.prog 29 #[p, .int .u64 id] w fun e w' => e = .returned (.tuple #[.int .i64 0, .string ByteArray.empty]) ∧ Keep No w w' := by
  have hn := Lib.hid (nd_none w p h)
  clear h
  go_enter Try.func29, Try.ntmps29
  go_wp2_with fail
  refine hn.out.mono ?_
  rintro e w1 ⟨rfl, rfl⟩
  go_wp2_with fail
  go_ret2
  exact ⟨rfl, Keep.refl _ _⟩
theorem nd_told (w : World) (p : Value) (id k : Int) (s : ByteArray) (h : NoDisk w p) : Calls Try.prog 34 #[p, .int .u64 id, .int .i64 k, .string s] w fun e w' => e = .returned (.int .i64 1) ∧ Keep No w w' := by
  have hn := Lib.hid (nd_none w p h)
  clear h
  go_enter Try.func34, Try.ntmps34
  go_wp2_with fail
  refine hn.out.mono ?_
  rintro e w1 ⟨rfl, rfl⟩
  go_wp2_with fail
  go_ret
  exact ⟨rfl, Keep.refl _ _⟩
theorem nd_grow (w : World) (p v : Value) (b : Int) (h : NoDisk w p) : Calls Try.prog 35 #[p, .int .u32 b, v] w fun e w' => e = .returned (.int .i64 1) ∧ Keep No w w' := by
  have hn := Lib.hid (nd_none w p h)
  clear h
  go_enter Try.func35, Try.ntmps35
  go_wp2_with fail
  refine hn.out.mono ?_
  rintro e w1 ⟨rfl, rfl⟩
  go_wp2_with fail
  go_ret
  exact ⟨rfl, Keep.refl _ _⟩
theorem nd_tick (w : World) (p : Value) (now : Int) (h : NoDisk w p) : Calls Try.prog 36 #[p, .int .u64 now] w fun e w' => e = .returned (.slice none 0 0) ∧ Keep No w w' := by
  have hn := Lib.hid (nd_none w p h)
  clear h
  go_enter Try.func36, Try.ntmps36
  go_wp2_with fail
  refine hn.out.mono ?_
  rintro e w1 ⟨rfl, rfl⟩
  go_wp2_with fail
  go_ret
  exact ⟨rfl, Keep.refl _ _⟩
theorem nd_open (w : World) (p : Value) (h : NoDisk w p) : Calls Try.prog 25 #[p] w fun e w' => e = .returned (.slice none 0 0) ∧ Keep No w w' := by
  have hn := Lib.hid (nd_none w p h)
  clear h
  go_enter Try.func25, Try.ntmps25
  go_wp2_with fail
  refine hn.out.mono ?_
  rintro e w1 ⟨rfl, rfl⟩
  go_wp2_with fail
  go_ret
  exact ⟨rfl, Keep.refl _ _⟩
end Go.Proofs.Ytimdaioojnohmaa
