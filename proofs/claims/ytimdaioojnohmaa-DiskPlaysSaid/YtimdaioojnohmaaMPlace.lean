/-
  chart.Place, span.End, the closure of chart.Split, chart.whole walked.
  chart.Split walked.
  chart.Split at every request; keelsonref37.Split; chart.Whole.
-/
import Derived.Test.YtimdaioojnohmaaRows
import Derived.Test.YtimdaioojnohmaaMBase
import Derived.Test.YtimdaioojnohmaaMFloat
import Derived.WalkMore
import Derived.ScopeJumps
namespace Go.Proofs.Ytimdaioojnohmaa
open Go.RowKit

theorem end_any (a b : Nat) (w : World) (ha : a < 4294967296) (hb : b < 4294967296) : Calls Try.prog 56 #[.agg #[.int .u32 a, .int .u32 b]] w fun e w' =>
    e = .returned (.int .u64 ((a + b : Nat) : Int)) ∧ w.alloc (.cells #[.int .u32 a, .int .u32 b] 24) = w' := by
  go_enter Try.func56, Try.ntmps56
  go_wp2
  go_ret
  exact ⟨rfl, rfl⟩

theorem place_none (b : Nat) (w : World) : Calls Try.prog 37 #[.int .u32 b, .int .u32 0] w fun e w' =>
    e = .returned (.tuple #[.complex .f64 0 0, .bool false]) ∧ w = w' := by
  go_enter Try.func37, Try.ntmps37
  go_wp2
  go_ret2
  exact ⟨rfl, rfl⟩

theorem place_any (b p : Nat) (w : World) (hp : 0 < p) (hp2 : p < 4294967296) (hb : b < 4294967296) : Calls Try.prog 37 #[.int .u32 b, .int .u32 p] w fun e w' =>
    e = .returned (.tuple #[.complex .f64 (F (b / p)) (F (b % p)), .bool true]) ∧ ∃ n, w' = w.drewN n := by
  have hz : ((p : Int) == 0) = false := by simp; omega
  go_enter Try.func37, Try.ntmps37
  go_wp2_with fail
  go_quiet (fail)
  go_wp2_with fail
  go_ret2
  have e1 : (b : Int) / (p : Int) % 4294967296 = ((b / p : Nat) : Int) := by
    have : b / p ≤ b := Nat.div_le_self b p
    rw [← Int.natCast_ediv]
    generalize b / p = q at *
    omega
  refine ⟨?_, nq, rfl⟩
  rw [Ending.returned.injEq, Value.tuple.injEq]
  simp only [e1]
  rfl

theorem toU32_F (n : Nat) (h : n < 4294967296) : floatToIntVal .f64 (F n) .u32 = some (n : Int) := by
  have h1 := toInt_F n (by omega)
  unfold floatToIntVal FloatKind.decode FloatKind.format
  rw [h1]
  have h2 : IntKind.u32.min ≤ (n : Int) ∧ (n : Int) ≤ IntKind.u32.max := by
    simp [IntKind.min, IntKind.max, IntKind.signed, IntKind.bits]; omega
  simp only [h2, and_self, if_true]
theorem left_any (re i per most cnt off from_ g0 g1 g2 g3 : Nat) (w : World) (hi : i < per) (ho : off ≤ cnt) (hp : per < 4294967296) (hm : most < 4294967296) (hc : cnt < 4294967296)
    (h0 : w.heap[g0]? = some (.cells #[.int .u32 from_, .int .u32 cnt] 24 (0, 0))) (h1 : w.cell? ⟨g1, 0, none⟩ = some (.int .u32 per)) (h2 : w.cell? ⟨g2, 0, none⟩ = some (.int .u32 most)) (h3 : w.cell? ⟨g3, 0, none⟩ = some (.int .u32 off)) :
    Calls Try.prog 57 #[.complex .f64 re (F i), .pointer (some ⟨g1, 0, none⟩), .pointer (some ⟨g2, 0, none⟩), .pointer (some ⟨g0, 0, none⟩), .pointer (some ⟨g3, 0, none⟩)] w fun e w' =>
    e = .returned (.int .u32 ((min (per - i) (min most (cnt - off)) : Nat) : Int)) ∧ w = w' := by
  have h01 := (blk_cell h0 1).trans rfl
  have hcv := fun (w : World) => run_convert_float_int (P := Try.prog) w 33 22 .f64 .u32 (F i) i (by rw [Try.underlying33]; rfl) Try.underlying22 (toU32_F i (by omega))
  clear h0
  by_cases hx : (most : Int) < (per : Int) - (i : Int)
  all_goals
    go_enter Try.func57, Try.ntmps57
    go_wp2_with fail
    all_goals
      go_ret
      exact ⟨ret_int (by omega), rfl⟩
end Go.Proofs.Ytimdaioojnohmaa

namespace Go.Proofs.Ytimdaioojnohmaa
open Go.RowKit

theorem Try.info32 : (Try.prog.info? 32).map (fun i => (i.zero, i.size, i.bytes)) = some (some (.agg #[.complex .f64 0 0, .int .u32 0, .int .u32 0]), 3, 24) := by kernel_rfl

/-- 'wp_scope_jumps', the pass from the label at hand for the first way, too. -/
theorem wp_scope_jumps2 {P : Program} {a : Act} {w : World} {Q : Exit → Act → World → Prop} {c rest : Code} (l : Nat) (J : Act → World → Prop) (μ : Act → World → Nat) (hf : findLabel c l = some (.seq .skip rest))
    (pass : ∀ a w, J a w → rest.wp P (Exit.jump l (fun a' w' => J a' w' ∧ μ a' w' < μ a w) Q) a w)
    (first : (∀ a w, J a w → rest.wp P (Exit.jump l J Q) a w) → c.wp P (Exit.jump l J Q) a w) : (Code.scope c).wp P Q a w :=
  wp_scope_jumps l J μ hf (first fun a w hJ => wp_mono (pass a w hJ) fun e a' w' hq => by cases e <;> first | exact hq | exact ⟨hq.1, hq.2.1⟩)
    fun a w hJ => wp_seq (wp_skip (pass a w hJ))

/-- What holds at the label of Split. -/
def SplitJ (a c per most : Nat) (w0 : World) (a' : Act) (w : World) : Prop :=
  ∃ (g0 g1 g2 g3 : Nat) (out : List CPart) (A : Option Addr) (k off : Nat) (u9 u10 u11 u24 u25 u26 u27 u28 u29 u30 u31 u32 u33 u34 u35 u36 u37 u38 u39 u40 u41 u42 u43 u44 u45 u46 u47 u48 u49 u50 u51 u52 u53 : Value), a' = { tmps := #[.agg #[.int .u32 (a : Nat), .int .u32 (c : Nat)], .int .u32 (per : Nat), .int .u32 (most : Nat), .pointer (some ⟨g0, 0, none⟩), .pointer (some ⟨g1, 0, none⟩), .pointer (some ⟨g2, 0, none⟩), .slice A out.length k, .pointer (some ⟨g3, 0, none⟩), .func (.func 57) #[] #[.pointer (some ⟨g1, 0, none⟩), .pointer (some ⟨g2, 0, none⟩), .pointer (some ⟨g0, 0, none⟩), .pointer (some ⟨g3, 0, none⟩)], u9, u10, u11, .int .u32 (per : Nat), .bool false, .bool false, .int .u32 (most : Nat), .bool false, .bool false, .bool false, .agg #[.int .u32 (a : Nat), .int .u32 (c : Nat)], .int .u64 ((a : Int) + (c : Int)), .bool false, .bool false, .func (.func 57) #[] #[.pointer (some ⟨g1, 0, none⟩), .pointer (some ⟨g2, 0, none⟩), .pointer (some ⟨g0, 0, none⟩), .pointer (some ⟨g3, 0, none⟩)], u24, u25, u26, u27, u28, u29, u30, u31, u32, u33, u34, u35, u36, u37, u38, u39, u40, u41, u42, u43, u44, u45, u46, u47, u48, u49, u50, u51, u52, u53], defers := [] } ∧
    w.heap[g0]? = some (.cells #[.int .u32 (a : Nat), .int .u32 (c : Nat)] 24 (0, 0)) ∧ w.heap[g1]? = some (.cells #[.int .u32 (per : Nat)] 22 (0, 0)) ∧ w.heap[g2]? = some (.cells #[.int .u32 (most : Nat)] 22 (0, 0)) ∧
    w.heap[g3]? = some (.cells #[.int .u32 (off : Nat)] 22 (0, 0)) ∧ g1 < g3 ∧ g2 < g3 ∧ w0.heap.size ≤ g3 ∧
    w.ownsRow 0 32 3 (.slice A out.length k) out.length (out.flatMap pcells) ∧ (∀ b, (Value.slice A out.length k).ownBlock = some b → w0.heap.size ≤ b) ∧ Keep No w0 w ∧
    Hid (out ++ cut per most a c off = cut per most a c 0) ∧ off ≤ c ∧ out.length ≤ 4096
def SplitM (c : Nat) (a : Act) (w : World) : Nat := match a.tmps.getD 7 undef with
  | .pointer (some p) => match w.cell? p with
    | some (.int _ n) => c - n.toNat
    | _ => 0
  | _ => 0

theorem split_any (a c per most : Nat) (w : World) (ha : a < 4294967296) (hc : c < 4294967296) (hp : per < 4294967296) (hm : most < 4294967296) (h0 : 0 < per) (h1 : 0 < most) (h2 : a + c ≤ 4294967296) :
    Calls Try.prog 14 #[.agg #[.int .u32 a, .int .u32 c], .int .u32 per, .int .u32 most] w fun e w' => ∃ A k l, e = .returned (.slice A l.length k) ∧ l = split a c per most ∧
      w'.ownsRow 0 32 3 (.slice A l.length k) l.length (l.flatMap pcells) ∧ (∀ b, (Value.slice A l.length k).ownBlock = some b → w.heap.size ≤ b) ∧ Keep No w w' := by
  have hz0 : ((per : Int) == 0) = false := by simp; omega
  have hz1 : ((most : Int) == 0) = false := by simp; omega
  have hz2 : decide ((4294967296 : Int) < (a : Int) + (c : Int)) = false := by simp; omega
  have hS : Hid (split a c per most = if (cut per most a c 0).length ≤ 4096 then cut per most a c 0 else []) := by
    show split a c per most = _
    unfold split
    rw [if_neg (by omega)]
  go_enter Try.func14, Try.ntmps14
  go_wp2_with fail
  refine wp_scope_jumps2 0 (SplitJ a c per most w) (SplitM c) rfl ?_ (fun hpass => ?_)
  · rintro a' wr ⟨g0, g1, g2, g3, out, A, k, off, u9, u10, u11, u24, u25, u26, u27, u28, u29, u30, u31, u32, u33, u34, u35, u36, u37, u38, u39, u40, u41, u42, u43, u44, u45, u46, u47, u48, u49, u50, u51, u52, u53, rfl, b0, b1, b2, b3, n1, n2, n3, ho, hA, hk, hcut, hoff, hlen⟩
    have s1 := (blk_cell b0 1).trans rfl
    have s0 := (blk_cell b0 0).trans rfl
    have sp := (blk_cell b1 0).trans rfl
    have sm := (blk_cell b2 0).trans rfl
    have so := (blk_cell b3 0).trans rfl
    have B0 := Lib.hid b0
    have B1 := Lib.hid b1
    have B2 := Lib.hid b2
    have B3 := Lib.hid b3
    clear b0 b1 b2 b3
    by_cases hend : off = c
    · subst hend
      go_wp2_with fail
      simp only [Exit.jump]
      go_ret
      have e := hcut.out
      rw [cut_end (Nat.le_refl _), List.append_nil] at e
      refine ⟨A, k, out, rfl, ?_, ho, hA, hk⟩
      rw [hS.out, ← e, if_pos hlen]
    · have hlt : off < c := by omega
      have hne : ((off : Int) == (c : Int)) = false := by simp; omega
      by_cases hfull : out.length = 4096
      · have HF := Lib.hid hfull
        have hf2 : ((out.length : Int) == 4096) = true := by simp; omega
        clear hfull
        go_wp2_with fail
        simp only [Exit.jump]
        go_ret
        have e := hcut.out
        refine ⟨none, 0, [], rfl, ?_, World.ownsRow_nil _ _ _ _, fun b hb => by simp [Value.ownBlock] at hb, hk⟩
        rw [hS.out, ← e, if_neg]
        rw [List.length_append, cut_step h0 h1 hlt, List.length_cons]
        have := HF.out
        omega
      · have hf2 : ((out.length : Int) == 4096) = false := by simp; omega
        have hf3 : out.length < 4096 := by omega
        clear hfull
        have hadd : a + off < 4294967296 := by omega
        have hpl := place_any (a + off) per wr h0 hp hadd
        rw [Int.natCast_add] at hpl
        have HP := Lib.hid hpl
        clear hpl
        go_wp2_with fail
        refine HP.out.mono ?_
        rintro e w1 ⟨rfl, nd, rfl⟩
        have hb0 : (wr.drewN nd).heap[g0]? = some (.cells #[.int .u32 (a : Nat), .int .u32 (c : Nat)] 24 (0, 0)) := B0.out
        have hmod := Nat.mod_lt (a + off) h0
        have hle := left_any (F ((a + off) / per)) ((a + off) % per) per most c off a g0 g1 g2 g3 (wr.drewN nd) hmod hoff hp hm hc hb0 sp sm so
        have HL := Lib.hid hle
        clear hle hb0
        obtain ⟨N, hN⟩ : ∃ N, piece per most a c off = N := ⟨_, rfl⟩
        have hNe : min (per - (a + off) % per) (min most (c - off)) = N := hN
        have hN1 := piece_pos h0 h1 hlt (a := a)
        have hN2 := piece_le hlt (per := per) (most := most) (a := a)
        rw [hN] at hN1 hN2
        have hst := cut_step h0 h1 hlt (a := a)
        rw [hN] at hst
        generalize (a + off) % per = i at *
        generalize (a + off) / per = q at *
        rw [hNe] at HL
        have HST := Lib.hid hst
        clear hst hN hNe
        go_wp2_with fail
        refine HL.out.mono ?_
        rintro e w1 ⟨rfl, rfl⟩
        have hso : Sl ((wr.drewN nd).alloc (.cells #[.complex .f64 (F q) (F i), .int .u32 (N : Nat), .int .u32 (off : Nat)] 32)) (.slice (some ⟨(wr.drewN nd).heap.size, 0, none⟩) 1 1) 1 (pcells ⟨q, i, N, off⟩) := Sl.lit (wr.drewN nd) _ 32 1
        have hwn : ((wr.drewN nd).alloc (.cells #[.complex .f64 (F q) (F i), .int .u32 (N : Nat), .int .u32 (off : Nat)] 32)).ownsRow 0 32 3 (.slice A out.length k) out.length (out.flatMap pcells) := World.ownsRow.alloc ho _
        have kn : Keep No wr ((wr.drewN nd).alloc (.cells #[.complex .f64 (F q) (F i), .int .u32 (N : Nat), .int .u32 (off : Nat)] 32)) := ((Keep.refl No wr).drewN nd).alloc _
        have hone : ∀ u ∈ pcells ⟨q, i, N, off⟩, u.oneCell' = true := by intro u hu; simp [pcells] at hu; rcases hu with rfl | rfl | rfl <;> rfl
        have h63 : out.length + 1 ≤ maxLen := by simp only [maxLen]; omega
        have d0 : ∀ b cs, wr.heap[b]? = some (.cells cs 24 (0, 0)) → ¬ (Value.slice A out.length k).ownBlock = some b := fun b cs hb e => by obtain ⟨cur, hcur⟩ := own_blk ho e; exact blk_ne hcur hb (by decide) rfl
        have d2 : ∀ b cs, wr.heap[b]? = some (.cells cs 22 (0, 0)) → ¬ (Value.slice A out.length k).ownBlock = some b := fun b cs hb e => by obtain ⟨cur, hcur⟩ := own_blk ho e; exact blk_ne hcur hb (by decide) rfl
        go_wp2_with (at_builtin; refine wpList_app rfl _ _ 25 rfl 32 _ 3 24 Try.underlying25 Try.info32 rfl (by decide) _ out.length _ hwn rfl _ 1 (pcells ⟨q, i, N, off⟩) hso rfl rfl hone (by omega) h63 ?_; intro A' k' w' ho' hk' hn'; have hK : Keep (Own (.slice A out.length k)) wr w' := kn.no.trans hk'; have so' : w'.cell? ⟨g3, 0, none⟩ = some (.int .u32 (off : Nat)) := (blk_cell (hK.blk B3.out (d2 _ _ B3.out)) 0).trans rfl; have fo' : w'.frozen? ⟨g3, 0, none⟩ = false := blk_free (hK.blk B3.out (d2 _ _ B3.out)) 0)
        go_step3
        have hA' : ∀ b, (Value.slice A' (out.length + 1) k').ownBlock = some b → w.heap.size ≤ b := fun b hb => by
          rcases hn' b hb with e | e
          · exact hA b e
          · have := hk.size
            have := kn.size
            omega
        have hfar : ∀ b cs, w'.heap[b]? = some (.cells cs 22 (0, 0)) → ¬ (Value.slice A' (out.length + 1) k').ownBlock = some b := fun b cs hb e => by obtain ⟨cur, hcur⟩ := own_blk ho' e; exact blk_ne hcur hb (by decide) rfl
        have b3 := hK.blk B3.out (d2 _ _ B3.out)
        have b0 := hK.blk B0.out (d0 _ _ B0.out)
        have hg0 : g0 ≠ g3 := blk_ne b0 b3 (by decide)
        refine ⟨rfl, ⟨g0, g1, g2, g3, out ++ [⟨q, i, N, off⟩], A', k', off + N, _, _, _, _, _, _, _, _, _, _, _, _, _, _, _, _, _, _, _, _, _, _, _, _, _, _, _, _, _, _, _, _, _, by rw [List.length_append]; rfl, ?_, ?_, ?_, ?_, n1, n2, n3, ?_, ?_, ?_, ?_, by omega, by rw [List.length_append]; simp; omega⟩, ?_⟩
        · rw [blk_far (p := ⟨g3, 0, none⟩) hg0]; exact b0
        · rw [blk_far (p := ⟨g3, 0, none⟩) (by show g1 ≠ g3; omega)]; exact hK.blk B1.out (d2 _ _ B1.out)
        · rw [blk_far (p := ⟨g3, 0, none⟩) (by show g2 ≠ g3; omega)]; exact hK.blk B2.out (d2 _ _ B2.out)
        · exact blk_set b3 0 _
        · rw [List.length_append, flat_snoc]
          exact ownsRow_setCell_other ho' (hfar _ _ b3) _
        · intro b hb
          rw [List.length_append] at hb
          exact hA' b hb
        · exact (hk.fresh hK hA).setCell (fun h => absurd h (by show ¬ g3 < _; omega)) _
        · show _ = _
          rw [List.append_assoc, ← hcut.out, HST.out]
          rfl
        · simp [SplitM, World.cell?_setCell_same _ _ _ so', so]
          omega
  · have HP := Lib.hid hpass
    clear hpass
    go_wp2_with fail
    refine (end_any a c _ ha hc).mono ?_
    rintro e w1 ⟨rfl, rfl⟩
    go_wp2_with fail
    go_step3
    go_step
    go_step
    refine HP.out _ _ ?_
    refine ⟨w.heap.size, w.heap.size + 1, w.heap.size + 1 + 1, w.heap.size + 1 + 1 + 1 + 1, [], none, 0, 0, _, _, _, _, _, _, _, _, _, _, _, _, _, _, _, _, _, _, _, _, _, _, _, _, _, _, _, _, _, _, _, _, _, rfl, ?_, ?_, ?_, ?_, by omega, by omega, by omega, World.ownsRow_nil _ _ _ _, fun b hb => by simp [Value.ownBlock] at hb, ?_, rfl, by omega, by simp⟩
    · exact blk_old (blk_old (blk_old (blk_old (blk_at _ _ rfl) _) _) _) _
    · exact blk_old (blk_old (blk_old (blk_at _ _ (by simp)) _) _) _
    · exact blk_old (blk_old (blk_at _ _ (by simp)) _) _
    · exact blk_at _ _ (by simp)
    exact (((((Keep.refl _ _).alloc _).alloc _).alloc _).alloc _).alloc _
end Go.Proofs.Ytimdaioojnohmaa

namespace Go.Proofs.Ytimdaioojnohmaa
open Go.RowKit

/-- A slice of parts of the program, of which nothing was there before w0. -/
def PartsAt (w0 w : World) (v : Value) (l : List CPart) : Prop :=
  ∃ A k, v = .slice A l.length k ∧ w.ownsRow 0 32 3 (.slice A l.length k) l.length (l.flatMap pcells) ∧ ∀ b, (Value.slice A l.length k).ownBlock = some b → w0.heap.size ≤ b

theorem split_all (a c per most : Nat) (w : World) (ha : a < 4294967296) (hc : c < 4294967296) (hp : per < 4294967296) (hm : most < 4294967296) :
    Calls Try.prog 14 #[.agg #[.int .u32 a, .int .u32 c], .int .u32 per, .int .u32 most] w fun e w' => ∃ v, e = .returned v ∧ PartsAt w w' v (split a c per most) ∧ Keep No w w' := by
  have nil : ∀ w', PartsAt w w' (.slice none 0 0) [] := fun w' => ⟨none, 0, rfl, World.ownsRow_nil _ _ _ _, fun b hb => by simp [Value.ownBlock] at hb⟩
  by_cases h0 : per = 0
  · subst h0
    have hS : split a c 0 most = [] := by unfold split; rw [if_pos (.inl rfl)]
    rw [hS]
    clear hS
    go_enter Try.func14, Try.ntmps14
    go_wp2_with fail
    go_step3
    go_wp2_with fail
    try rw [Exit.noGoto_ret]
    go_ret
    exact ⟨_, rfl, nil _, (((Keep.refl _ _).alloc _).alloc _).alloc _⟩
  by_cases h1 : most = 0
  · subst h1
    have hS : split a c per 0 = [] := by unfold split; rw [if_pos (.inr (.inl rfl))]
    have hz0 : ((per : Int) == 0) = false := by simp; omega
    rw [hS]
    clear hS
    go_enter Try.func14, Try.ntmps14
    go_wp2_with fail
    go_step3
    go_wp2_with fail
    try rw [Exit.noGoto_ret]
    go_ret
    exact ⟨_, rfl, nil _, (((Keep.refl _ _).alloc _).alloc _).alloc _⟩
  by_cases h2 : 4294967296 < a + c
  · have hS : split a c per most = [] := by unfold split; rw [if_pos (.inr (.inr h2))]
    have hz0 : ((per : Int) == 0) = false := by simp; omega
    have hz1 : ((most : Int) == 0) = false := by simp; omega
    have hz2 : decide ((4294967296 : Int) < (a : Int) + (c : Int)) = true := by simp; omega
    rw [hS]
    clear hS
    go_enter Try.func14, Try.ntmps14
    go_wp2_with fail
    go_step3
    go_wp2_with fail
    refine (end_any a c _ ha hc).mono ?_
    rintro e w1 ⟨rfl, rfl⟩
    go_wp2_with fail
    try rw [Exit.noGoto_ret]
    go_ret
    exact ⟨_, rfl, nil _, ((((Keep.refl _ _).alloc _).alloc _).alloc _).alloc _⟩
  exact (split_any a c per most w ha hc hp hm (by omega) (by omega) (by omega)).mono fun e w' ⟨A, k, l, he, hl, ho, hb, hk⟩ => by
    subst hl
    exact ⟨_, he, ⟨A, k, rfl, ho, hb⟩, hk⟩

theorem PartsAt.at_ {w0 w : World} {v : Value} {l : List CPart} (h : PartsAt w0 w v l) (i : Nat) (hi : i < l.length) :
    ∃ b k, v = .slice (some ⟨b, 0, none⟩) l.length k ∧ l.length ≤ k ∧ w.cell? ⟨b, i * 3, none⟩ = some (.complex .f64 (F l[i].ch) (F l[i].bl)) ∧ w.cell? ⟨b, i * 3 + 1, none⟩ = some (.int .u32 l[i].n) ∧ w.cell? ⟨b, i * 3 + 2, none⟩ = some (.int .u32 l[i].off) := by
  obtain ⟨A, k, rfl, ho, hb⟩ := h
  rcases ho.2 with ⟨hv, h0⟩ | ⟨g, cap, cur, hv, _, hg, hc, _⟩
  · omega
  · injection hv with hA _ hk
    subst hA hk
    refine ⟨g, k, rfl, hc, ?_, ?_, ?_⟩
    all_goals
      first
      | (have := ho.cells (g := g) rfl (i * 3 + 0) _ ((flat_get pcells 3 (fun _ => rfl) l i 0 hi (by decide)).trans rfl); rw [Addr.add_at, Nat.zero_add] at this; exact this)
      | (have := ho.cells (g := g) rfl (i * 3 + 1) _ ((flat_get pcells 3 (fun _ => rfl) l i 1 hi (by decide)).trans rfl); rw [Addr.add_at, Nat.zero_add] at this; exact this)
      | (have := ho.cells (g := g) rfl (i * 3 + 2) _ ((flat_get pcells 3 (fun _ => rfl) l i 2 hi (by decide)).trans rfl); rw [Addr.add_at, Nat.zero_add] at this; exact this)

theorem PartsAt.keep {w0 w w' : World} {v : Value} {l : List CPart} (h : PartsAt w0 w v l) (hk : Keep No w w') : PartsAt w0 w' v l := by
  obtain ⟨A, k, rfl, ho, hb⟩ := h
  exact ⟨A, k, rfl, own_keep ho hk (fun _ _ h => h), hb⟩

/-- All blocks of parts. -/
def total (l : List CPart) : Nat := (l.map (·.n)).sum
theorem total_take (l : List CPart) (k : Nat) : total (l.take k) ≤ total l := by
  have e : total l = total (l.take k) + total (l.drop k) := by
    unfold total
    rw [← List.sum_append, ← List.map_append, List.take_append_drop]
  omega
theorem total_succ (l : List CPart) (k : Nat) (h : k < l.length) : total (l.take (k + 1)) = total (l.take k) + l[k].n := by
  unfold total
  rw [List.take_succ_eq_append_getElem h, List.map_append, List.sum_append]
  simp
theorem cut_total (per most a c : Nat) (hp : 0 < per) (hm : 0 < most) : ∀ d off, c - off = d → total (cut per most a c off) = c - off := by
  intro d
  induction d using Nat.strongRecOn with
  | _ d ih =>
    intro off hd
    by_cases h : off < c
    · have h1 := piece_pos hp hm h (a := a)
      have h2 := piece_le h (per := per) (most := most) (a := a)
      rw [cut_step hp hm h]
      show _ + total (cut per most a c (off + piece per most a c off)) = _
      rw [ih (c - (off + piece per most a c off)) (by omega) _ rfl]
      simp only
      omega
    · rw [cut_end (by omega)]
      simp [total]; omega
theorem split_total (a c per most : Nat) (h : split a c per most ≠ []) : total (split a c per most) = c := by
  unfold split at h ⊢
  split
  · rename_i h1; rw [if_pos h1] at h; exact absurd rfl h
  · rename_i h1
    rw [if_neg h1] at h
    split
    · exact cut_total per most a c (by omega) (by omega) _ 0 rfl
    · rename_i h2; rw [if_neg h2] at h; exact absurd rfl h

theorem whole_any (w0 : World) (v : Value) (l : List CPart) (w : World) (h : PartsAt w0 w v l) (hl : l.length ≤ 4096) (ht : total l ≤ 4294967296) :
    Calls Try.prog 18 #[v] w fun e w' => e = .returned (.int .u64 (total l : Nat)) ∧ w = w' := by
  have H := Lib.hid h
  obtain ⟨A, k, rfl, -, -⟩ := h
  go_enter Try.func18, Try.ntmps18
  go_wp2_with fail
  go_loopw [2, 6] (fun tv iv wr => ∃ i, i ≤ l.length ∧ iv = .int .i64 (i : Nat) ∧ tv = .int .u64 (total (l.take i) : Nat) ∧ w = wr) (fun _ iv _ => l.length - (intOf iv).toNat)
  case atStart => exact ⟨0, Nat.zero_le _, rfl, rfl, rfl⟩
  case round =>
    obtain ⟨i, hi, rfl, rfl, rfl⟩ := hrel
    by_cases hlt : i < l.length
    · obtain ⟨b, k', hv, hk', c0, c1, c2⟩ := H.out.at_ i hlt
      injection hv with hA _ hkk
      subst hA hkk
      have hs := total_succ l i hlt
      have hle := total_take l (i + 1)
      rw [hs] at hle
      have HS := Lib.hid hs
      clear hs c0 c2
      generalize total (l.take i) = T at *
      go_wp2_with fail
      exact ⟨⟨i + 1, by omega, by simp, by rw [HS.out]; simp, trivial⟩, by simp [intOf]; omega⟩
    · obtain rfl : i = l.length := by omega
      rw [List.take_length]
      go_wp2_with fail
      go_ret
      exact ⟨rfl, rfl⟩
theorem split_len (a c per most : Nat) : (split a c per most).length ≤ 4096 := by
  unfold split
  split
  · simp
  · split
    · assumption
    · simp
theorem split_total_le (a c per most : Nat) : total (split a c per most) ≤ c := by
  by_cases h : split a c per most = []
  · rw [h]; simp [total]
  · rw [split_total a c per most h]; exact Nat.le_refl _
end Go.Proofs.Ytimdaioojnohmaa
