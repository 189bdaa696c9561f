/-
  Bytes, Text and Nums of choices that no call made, walked.
-/
import Derived.Test.YtnojbbkpbjobkaaTimes
namespace Go.Proofs.Ytnojbbkpbjobkaa
open Go.RowKit Go.Shelf

attribute [local go_sem] Oper.semAt_some

theorem text1_any (p : Option Addr) (bp : Nat) (w : World) (h : SrcP w p []) (hb : w.cell? ⟨bp, 0, none⟩ = some (.pointer p)) : Calls Try.prog 16 #[.pointer (some ⟨bp, 0, none⟩)] w fun e w' => e = .returned (.int .u8 97) ∧ w = w' := by
  have h0 := Lib.hid (num_nobody p 26 w h (by decide) (by decide))
  clear h
  go_enter Try.func16, Try.ntmps16
  go_wp2_with fail
  refine h0.out.mono ?_
  rintro e w1 ⟨rfl, rfl⟩
  go_wp2_with fail
  go_ret
  exact ⟨rfl, rfl⟩
theorem nums1_any (p : Option Addr) (bp bq : Nat) (z : Int) (w : World) (h : SrcP w p []) (hb : w.cell? ⟨bp, 0, none⟩ = some (.pointer p)) (hq : w.cell? ⟨bq, 0, none⟩ = some (.int .i64 z)) (h1 : -9223372036854775808 ≤ z) (h2 : z ≤ 9223372036854775807) :
    Calls Try.prog 18 #[.pointer (some ⟨bp, 0, none⟩), .pointer (some ⟨bq, 0, none⟩)] w fun e w' => e = .returned (.int .i64 0) ∧ w = w' := by
  have h0 := Lib.hid (num_nobody p z w h h1 h2)
  clear h
  go_enter Try.func18, Try.ntmps18
  go_wp2_with fail
  refine h0.out.mono ?_
  rintro e w1 ⟨rfl, rfl⟩
  go_wp2_with fail
  go_ret
  exact ⟨rfl, rfl⟩
theorem times15_any (z : Int) (fn : Fn) (bo ca : Array Value) (w : World) : Calls Try.prog 15 #[.int .i64 z, .func fn bo ca] w fun e w' =>
    e = .returned (.func (.func 19) #[] #[.pointer (some ⟨w.heap.size, 0, none⟩), .pointer (some ⟨w.heap.size + 1, 0, none⟩)]) ∧ w' = (w.alloc (.cells #[.int .i64 z] 3)).alloc (.cells #[.func fn bo ca] 33) := by
  go_enter Try.func15, Try.ntmps15
  go_wp2_with fail
  go_ret
  exact ⟨rfl, rfl⟩
theorem times17_any (z : Int) (fn : Fn) (bo ca : Array Value) (w : World) : Calls Try.prog 17 #[.int .i64 z, .func fn bo ca] w fun e w' =>
    e = .returned (.func (.func 20) #[] #[.pointer (some ⟨w.heap.size, 0, none⟩), .pointer (some ⟨w.heap.size + 1, 0, none⟩)]) ∧ w' = (w.alloc (.cells #[.int .i64 z] 3)).alloc (.cells #[.func fn bo ca] 27) := by
  go_enter Try.func17, Try.ntmps17
  go_wp2_with fail
  go_ret
  exact ⟨rfl, rfl⟩

theorem src_keep {S : Nat → Prop} {p : Option Addr} {w w' : World} (h : SrcP w p []) (hk : Keep S w w') (hn : ∀ a, p = some a → ¬ S a.block) : SrcP w' p [] := by
  cases p with
  | none => exact h
  | some a =>
    obtain ⟨ha, A, c, hb, hc, -⟩ := h
    exact ⟨ha, A, c, hk.blk hb (hn a rfl), hc, fun i x hx => by simp at hx⟩
theorem src_lt {p : Option Addr} {w : World} (h : SrcP w p []) (a : Addr) (ha : p = some a) : a.block < w.heap.size := by
  subst ha
  obtain ⟨ha, A, c, hb, hc, -⟩ := h
  exact lt_of_block hb
theorem results_box {P : Program} {fn : Func} {p : Tmp} {ty e : TypeId} (h : fn.results = #[.cell p ty]) (hu : P.underlying ty = some (.slice e)) (tmps : Array Value) (w : World) (g : Nat) (v : Value) (hp : tmps.getD p undef = .pointer (some ⟨g, 0, none⟩))
    (hc : w.cell? ⟨g, 0, none⟩ = some v) : (results fn tmps).run P w = .ok v w := by
  have hp' : tmps[p]?.getD undef = .pointer (some ⟨g, 0, none⟩) := by simpa using hp
  have hagg : (isAgg ty).run P w = .ok false w := by
    unfold isAgg
    rw [Sem.run_bind, run_underlying hu w]
    rfl
  simp [results, h, hp', asAddr, loadVar, Sem.run_bind, hagg, hc]
theorem kpb_own {B M B' : Nat} (hM : M ≤ B') (W0 : World) : OwnFrom B' (fun (_ : List Unit) W => KpB B M W0 W) :=
  fun _ _ _ _ hs hg hr => Keep.grown hs hg (fun k e _ => .inr (Nat.le_trans hM (hr k e).1))

set_option maxRecDepth 100000 in
set_option maxHeartbeats 4000000 in
theorem bytes_nobody (p : Option Addr) (z : Int) (w : World) (h : SrcP w p []) (hz : z ≤ 200) : Calls Try.prog 11 #[.pointer p, .int .i64 z] w fun e w' => (∃ A k, e = .returned (.slice A z.toNat k)) ∧ Keep No w w' := by
  obtain ⟨i0, hi, hz0, hz1, hz2⟩ := info_parts Try.info5
  obtain ⟨m, hm⟩ : ∃ m, m = z.toNat := ⟨_, rfl⟩
  have hm200 : m ≤ 200 := by omega
  refine (callsIn_wide (n := 4)).1 ?_
  refine callsIn_of_wp_marks Try.func11 rfl trivial ?_ rfl
  simp only [Try.ntmps11, List.size_toArray, List.length_cons, List.length_nil, Nat.reduceAdd, Nat.reduceSub, Array.replicate_succ, Array.replicate_zero, List.push_toArray, List.append_toArray, List.nil_append, List.cons_append]
  gi_wp2_with (refine ⟨trivial, ?_⟩; gi_at_call 15; refine (callsIn_wide.2 (times15_any _ _ _ _ _)).mono ?_; rintro e w' ⟨rfl, rfl⟩)
  have bO := (((Boxed.new w 26 (.slice none 0 0)).alloc (.cells #[.int .i64 z] 3)).alloc (.cells #[.func (.func 10) #[.pointer p] #[]] 33))
  have cN := (blk_cell (blk_old (blk_at (w.alloc (.cells #[.slice none 0 0] 26)) (.cells #[.int .i64 z] 3) (n := w.heap.size + 1) (by simp)) (.cells #[.func (.func 10) #[.pointer p] #[]] 33)) 0).trans rfl
  have cF := (blk_cell (blk_at ((w.alloc (.cells #[.slice none 0 0] 26)).alloc (.cells #[.int .i64 z] 3)) (.cells #[.func (.func 10) #[.pointer p] #[]] 33) (n := w.heap.size + 1 + 1) (by simp)) 0).trans rfl
  have hk0 : Keep No w (((w.alloc (.cells #[.slice none 0 0] 26)).alloc (.cells #[.int .i64 z] 3)).alloc (.cells #[.func (.func 10) #[.pointer p] #[]] 33)) := (((Keep.refl No w).alloc _).alloc _).alloc _
  have hsz : (((w.alloc (.cells #[.slice none 0 0] 26)).alloc (.cells #[.int .i64 z] 3)).alloc (.cells #[.func (.func 10) #[.pointer p] #[]] 33)).heap.size = w.heap.size + 3 := by simp
  generalize ((w.alloc (.cells #[.slice none 0 0] 26)).alloc (.cells #[.int .i64 z] 3)).alloc (.cells #[.func (.func 10) #[.pointer p] #[]] 33) = W0 at *
  have hs0 : SrcP W0 p [] := src_keep h hk0 (fun _ _ h => h)
  have hseq : SeqStopsK Fence.wide (4 - 1) Try.prog 19 #[.pointer (some ⟨w.heap.size + 1, 0, none⟩), .pointer (some ⟨w.heap.size + 1 + 1, 0, none⟩)] (fun _ : Unit => #[Value.int .u8 (0 : Nat)]) (KpB w.heap.size (w.heap.size + 3)) (fun ys => ys.length = m) (fun pre => pre.length ≤ m) m W0 := fun l J Jx W hW _ _ hY h0 => by
    have hkW : Keep No W0 W := Keep.ofBelow hW
    refine times_bytes 3 (by decide) l (w.heap.size + 1) (w.heap.size + 1 + 1) w.heap.size (w.heap.size + 3) m 0 z p hm hz ⟨by omega, by omega⟩ ⟨by omega, by omega⟩ W J Jx (fun W' hk => ?_) hY (hkW.cellSome cN (fun h => h)) (hkW.cellSome cF (fun h => h)) h0
    refine byte_nobody p W' (src_keep (src_keep hs0 hkW (fun _ _ h => h)) hk (fun a ha hS => ?_))
    have := src_lt h a ha
    rcases hS with e | e <;> omega
  refine wpIn_rangeFunc_ownG rfl (by decide) (gf := 19) (lb := #[.pointer (some ⟨w.heap.size + 1, 0, none⟩), .pointer (some ⟨w.heap.size + 1 + 1, 0, none⟩)]) rfl trivial (enters_of Try.func19 (by kernel_rfl) rfl)
    hseq KpB.t (KpB.b (by omega)) (Below.refl _ _) (fun _ => rfl)
    (fun pre W => (∃ v, Boxed W w.heap.size 26 v ∧ W.ownsRow (w.heap.size + 3) 5 1 v pre.length (pre.map (fun _ => Value.int .u8 0)) ∧ True) ∧ KpB w.heap.size (w.heap.size + 3) W0 W)
    (fun _ _ _ => False)
    (OwnFrom.and (Own.from (holdsRow_own (w.heap.size + 3) w.heap.size 26 5 1 (fun (pre : List Unit) => pre.length) (fun pre => pre.map (fun _ => Value.int .u8 0)) (fun _ _ => True)) _) (kpb_own (by omega) W0))
    (fun _ _ _ _ _ hs _ _ => hs)
    ⟨⟨_, bO, World.ownsRow_nil _ _ _ _, trivial⟩, Keep.refl _ _⟩
    (fun _ => { tmps := #[.pointer p, .int .i64 z, undef, undef, .pointer (some ⟨w.heap.size, 0, none⟩), .int .u8 0, .int .i64 z, .pointer p, .func (.func 10) #[.pointer p] #[],
      .func (.func 19) #[] #[.pointer (some ⟨w.heap.size + 1, 0, none⟩), .pointer (some ⟨w.heap.size + 1 + 1, 0, none⟩)], .int .u8 0, undef, undef, undef, undef, undef], defers := [] }) ?assign ?body ?done ?stop
  case assign =>
    intro l x W K hK
    gi_wp2
    exact hK
  case body =>
    rintro l pre x W ⟨⟨v, hv, hrow, -⟩, hB⟩ hlt
    have hc := hv.cell
    gi_wp2_with (gi_at_builtin; refine wpListIn_append_own _ rfl _ _ 26 rfl (w.heap.size + 3) 5 i0 (.int .u8 0) 1 1 Try.underlying26 hi hz0 hz1 hz2 rfl (by decide) _ _ _ rfl (hrow.alloc _) ⟨W.heap.size, 0, none⟩ 1 1 [.int .u8 0] rfl rfl (cell_one_new _ _ _) (by simp [Value.oneCell']) (by simp only [maxLen]; omega) (by omega) (by have := hB.size; simp; omega) ?_; intro v' w1 hown' hgrow _; obtain ⟨g', cap', rfl⟩ := ownsRow_succ hown'; have hgrow2 : (W.alloc (.cells #[.int .u8 0] 5)).grownBy w1 v.ownBlock := hgrow; have hv1 := (hv.alloc (.cells #[.int .u8 0] 5)).kept hgrow2 (hv.not_row (by decide) hrow); have hc1 := hv1.cell; have hf1 := hv1.frozen)
    obtain ⟨-, hv2, -, hk2, -⟩ := hv.appended (n₀ := 0) (by decide) (own_base hrow (fun _ _ => Nat.zero_le _)) (Nat.zero_le _) (Nat.zero_le _) (own_base hown' (fun _ _ => Nat.zero_le _)) hgrow2
    clear hgrow
    have hkp : KpB w.heap.size (w.heap.size + 3) W (w1.setCell ⟨w.heap.size, 0, none⟩ (.slice (some ⟨g', 0, none⟩) (pre.length + 1) cap')) :=
      Keep.setCell (Keep.grown ((Keep.refl _ W).alloc _) hgrow2 (fun k e _ => .inr (by
        rcases hrow.2 with ⟨rfl, _⟩ | ⟨g, cap, cur, rfl, hb, _, _⟩
        · simp [Value.ownBlock] at e
        · obtain rfl : g = k := by simpa [Value.ownBlock] using e
          exact hb))) (p := ⟨w.heap.size, 0, none⟩) (fun _ => .inl rfl) _
    refine ⟨hk2.from _, hkp, ⟨_, by simpa using hv2, ?_, trivial⟩, hB.t hkp⟩
    have := hown'.kept (grownBy_setCell' w1 w.heap.size (.slice (some ⟨g', 0, none⟩) (pre.length + 1) cap')) (.inr (hv1.not_row (by decide) hown').symm)
    simpa using this
  case done =>
    rintro D ys W hD hlen ⟨⟨v, hv, hrow, -⟩, hB⟩ hK
    have hc := hv.cell
    have hf := hv.frozen
    obtain ⟨A, k, rfl⟩ := own_slice hrow
    rw [hlen, hm] at hv hc
    gi_wp2
    have hb2 := hv.set (.slice A z.toNat k)
    have hK2 := (KeepsOthers.setCell W ⟨w.heap.size, 0, none⟩ (.slice A z.toNat k)).same D _ hK rfl
    refine ⟨by simp, .inl ⟨_, _, rfl, run_takeDeferred hK2, ?_⟩⟩
    refine ⟨_, results_box rfl Try.underlying26 _ _ w.heap.size (.slice A z.toNat k) rfl (hb2.kept (grownBy_putObj' _ D _) (fun e => by injection e; omega)).cell, ⟨_, _, rfl⟩, ?_⟩
    exact hk0.fresh ((Keep.setCell hB (p := ⟨w.heap.size, 0, none⟩) (fun _ => .inl rfl) _).grown (grownBy_putObj' _ D _) (fun k e _ => by cases e; exact .inr (by omega))) (fun i hi => by rcases hi with e | e <;> omega)
  case stop =>
    rintro D c pre W _ _ h _
    exact h.elim
theorem Try.info3 : (Try.prog.info? 3).map (fun i => (i.zero, i.size, i.bytes)) = some (some (.int .i64 0), 1, 8) := by kernel_rfl
set_option maxRecDepth 100000 in
set_option maxHeartbeats 4000000 in
theorem nums_nobody (p : Option Addr) (z bnd : Int) (w : World) (h : SrcP w p []) (hz : z ≤ 200) (hb1 : -9223372036854775808 ≤ bnd) (hb2 : bnd ≤ 9223372036854775807) : Calls Try.prog 14 #[.pointer p, .int .i64 z, .int .i64 bnd] w fun e w' => (∃ A k, e = .returned (.slice A z.toNat k)) ∧ Keep No w w' := by
  obtain ⟨i0, hi, hz0, hz1, hz2⟩ := info_parts Try.info3
  obtain ⟨m, hm⟩ : ∃ m, m = z.toNat := ⟨_, rfl⟩
  have hm200 : m ≤ 200 := by omega
  refine (callsIn_wide (n := 4)).1 ?_
  refine callsIn_of_wp_marks Try.func14 rfl trivial ?_ rfl
  simp only [Try.ntmps14, List.size_toArray, List.length_cons, List.length_nil, Nat.reduceAdd, Nat.reduceSub, Array.replicate_succ, Array.replicate_zero, List.push_toArray, List.append_toArray, List.nil_append, List.cons_append]
  gi_wp2_with (refine ⟨trivial, ?_⟩; gi_at_call 17; refine (callsIn_wide.2 (times17_any _ _ _ _ _)).mono ?_; rintro e w' ⟨rfl, rfl⟩)
  have cP := (blk_cell (blk_old (blk_old (blk_old (blk_old (blk_at w (.cells #[.pointer p] 22) rfl) (.cells #[.int .i64 bnd] 3)) (.cells #[.slice none 0 0] 37)) (.cells #[.int .i64 z] 3)) (.cells #[.func (.func 18) #[] #[.pointer (some ⟨w.heap.size, 0, none⟩), .pointer (some ⟨w.heap.size + 1, 0, none⟩)]] 27)) 0).trans rfl
  have cQ := (blk_cell (blk_old (blk_old (blk_old (blk_at (w.alloc (.cells #[.pointer p] 22)) (.cells #[.int .i64 bnd] 3) (n := w.heap.size + 1) (by simp)) (.cells #[.slice none 0 0] 37)) (.cells #[.int .i64 z] 3)) (.cells #[.func (.func 18) #[] #[.pointer (some ⟨w.heap.size, 0, none⟩), .pointer (some ⟨w.heap.size + 1, 0, none⟩)]] 27)) 0).trans rfl
  have bO : Boxed _ (w.heap.size + 2) 37 (.slice none 0 0) := blk_old (blk_old (blk_at ((w.alloc (.cells #[.pointer p] 22)).alloc (.cells #[.int .i64 bnd] 3)) (.cells #[.slice none 0 0] 37) (n := w.heap.size + 2) (by simp)) (.cells #[.int .i64 z] 3)) (.cells #[.func (.func 18) #[] #[.pointer (some ⟨w.heap.size, 0, none⟩), .pointer (some ⟨w.heap.size + 1, 0, none⟩)]] 27)
  have cN := (blk_cell (blk_old (blk_at (((w.alloc (.cells #[.pointer p] 22)).alloc (.cells #[.int .i64 bnd] 3)).alloc (.cells #[.slice none 0 0] 37)) (.cells #[.int .i64 z] 3) (n := w.heap.size + 1 + 1 + 1) (by simp)) (.cells #[.func (.func 18) #[] #[.pointer (some ⟨w.heap.size, 0, none⟩), .pointer (some ⟨w.heap.size + 1, 0, none⟩)]] 27)) 0).trans rfl
  have cF := (blk_cell (blk_at ((((w.alloc (.cells #[.pointer p] 22)).alloc (.cells #[.int .i64 bnd] 3)).alloc (.cells #[.slice none 0 0] 37)).alloc (.cells #[.int .i64 z] 3)) (.cells #[.func (.func 18) #[] #[.pointer (some ⟨w.heap.size, 0, none⟩), .pointer (some ⟨w.heap.size + 1, 0, none⟩)]] 27) (n := w.heap.size + 1 + 1 + 1 + 1) (by simp)) 0).trans rfl
  have hk0 : Keep No w (((((w.alloc (.cells #[.pointer p] 22)).alloc (.cells #[.int .i64 bnd] 3)).alloc (.cells #[.slice none 0 0] 37)).alloc (.cells #[.int .i64 z] 3)).alloc (.cells #[.func (.func 18) #[] #[.pointer (some ⟨w.heap.size, 0, none⟩), .pointer (some ⟨w.heap.size + 1, 0, none⟩)]] 27)) := (((((Keep.refl No w).alloc _).alloc _).alloc _).alloc _).alloc _
  have hsz : (((((w.alloc (.cells #[.pointer p] 22)).alloc (.cells #[.int .i64 bnd] 3)).alloc (.cells #[.slice none 0 0] 37)).alloc (.cells #[.int .i64 z] 3)).alloc (.cells #[.func (.func 18) #[] #[.pointer (some ⟨w.heap.size, 0, none⟩), .pointer (some ⟨w.heap.size + 1, 0, none⟩)]] 27)).heap.size = w.heap.size + 5 := by simp
  generalize ((((w.alloc (.cells #[.pointer p] 22)).alloc (.cells #[.int .i64 bnd] 3)).alloc (.cells #[.slice none 0 0] 37)).alloc (.cells #[.int .i64 z] 3)).alloc (.cells #[.func (.func 18) #[] #[.pointer (some ⟨w.heap.size, 0, none⟩), .pointer (some ⟨w.heap.size + 1, 0, none⟩)]] 27) = W0 at *
  have hs0 : SrcP W0 p [] := src_keep h hk0 (fun _ _ h => h)
  have hseq : SeqStopsK Fence.wide (4 - 1) Try.prog 20 #[.pointer (some ⟨w.heap.size + 1 + 1 + 1, 0, none⟩), .pointer (some ⟨w.heap.size + 1 + 1 + 1 + 1, 0, none⟩)] (fun _ : Unit => #[Value.int .i64 (0 : Nat)]) (KpB (w.heap.size + 1 + 1) (w.heap.size + 5)) (fun ys => ys.length = m) (fun pre => pre.length ≤ m) m W0 := fun l J Jx W hW _ _ hY h0 => by
    have hkW : Keep No W0 W := Keep.ofBelow hW
    refine times_nums 3 (by decide) l (w.heap.size + 1 + 1 + 1) (w.heap.size + 1 + 1 + 1 + 1) (w.heap.size + 1 + 1) (w.heap.size + 5) m 0 z w.heap.size (w.heap.size + 1) hm hz ⟨by omega, by omega⟩ ⟨by omega, by omega⟩ W J Jx (fun W' hk => ?_) hY (hkW.cellSome cN (fun h => h)) (hkW.cellSome cF (fun h => h)) h0
    refine nums1_any p _ _ bnd W' (src_keep (src_keep hs0 hkW (fun _ _ h => h)) hk (fun a ha hS => ?_)) (Keep.cellSome hk (hkW.cellSome cP (fun h => h)) (by simp <;> omega)) (Keep.cellSome hk (hkW.cellSome cQ (fun h => h)) (by simp <;> omega)) hb1 hb2
    have := src_lt h a ha
    rcases hS with e | e <;> omega
  refine wpIn_rangeFunc_ownG rfl (by decide) (gf := 20) (lb := #[.pointer (some ⟨w.heap.size + 1 + 1 + 1, 0, none⟩), .pointer (some ⟨w.heap.size + 1 + 1 + 1 + 1, 0, none⟩)]) rfl trivial (enters_of Try.func20 (by kernel_rfl) rfl)
    hseq KpB.t (KpB.b (by omega)) (Below.refl _ _) (fun _ => rfl)
    (fun pre W => (∃ v, Boxed W (w.heap.size + 1 + 1) 37 v ∧ W.ownsRow (w.heap.size + 5) 3 1 v pre.length (pre.map (fun _ => Value.int .i64 0)) ∧ True) ∧ KpB (w.heap.size + 1 + 1) (w.heap.size + 5) W0 W)
    (fun _ _ _ => False)
    (OwnFrom.and (Own.from (holdsRow_own (w.heap.size + 5) (w.heap.size + 1 + 1) 37 3 1 (fun (pre : List Unit) => pre.length) (fun pre => pre.map (fun _ => Value.int .i64 0)) (fun _ _ => True)) _) (kpb_own (by omega) W0))
    (fun _ _ _ _ _ hs _ _ => hs)
    ⟨⟨_, bO, World.ownsRow_nil _ _ _ _, trivial⟩, Keep.refl _ _⟩
    (fun _ => { tmps := #[.pointer p, .int .i64 z, .int .i64 bnd, .pointer (some ⟨w.heap.size, 0, none⟩), undef, .pointer (some ⟨w.heap.size + 1, 0, none⟩), .pointer (some ⟨w.heap.size + 1 + 1, 0, none⟩), .int .i64 0, .int .i64 z, .func (.func 18) #[] #[.pointer (some ⟨w.heap.size, 0, none⟩), .pointer (some ⟨w.heap.size + 1, 0, none⟩)],
      .func (.func 20) #[] #[.pointer (some ⟨w.heap.size + 1 + 1 + 1, 0, none⟩), .pointer (some ⟨w.heap.size + 1 + 1 + 1 + 1, 0, none⟩)], .int .i64 0, undef, undef, undef, undef, undef], defers := [] }) ?assign ?body ?done ?stop
  case assign =>
    intro l x W K hK
    gi_wp2
    exact hK
  case body =>
    rintro l pre x W ⟨⟨v, hv, hrow, -⟩, hB⟩ hlt
    have hc := hv.cell
    gi_wp2_with (gi_at_builtin; refine wpListIn_append_own _ rfl _ _ 37 rfl (w.heap.size + 5) 3 i0 (.int .i64 0) 1 8 Try.underlying37 hi hz0 hz1 hz2 rfl (by decide) _ _ _ rfl (hrow.alloc _) ⟨W.heap.size, 0, none⟩ 1 1 [.int .i64 0] rfl rfl (cell_one_new _ _ _) (by simp [Value.oneCell']) (by simp only [maxLen]; omega) (by omega) (by have := hB.size; simp; omega) ?_; intro v' w1 hown' hgrow _; obtain ⟨g', cap', rfl⟩ := ownsRow_succ hown'; have hgrow2 : (W.alloc (.cells #[.int .i64 0] 3)).grownBy w1 v.ownBlock := hgrow; have hv1 := (hv.alloc (.cells #[.int .i64 0] 3)).kept hgrow2 (hv.not_row (by decide) hrow); have hc1 := hv1.cell; have hf1 := hv1.frozen)
    obtain ⟨-, hv2, -, hk2, -⟩ := hv.appended (n₀ := 0) (by decide) (own_base hrow (fun _ _ => Nat.zero_le _)) (Nat.zero_le _) (Nat.zero_le _) (own_base hown' (fun _ _ => Nat.zero_le _)) hgrow2
    clear hgrow
    have hkp : KpB (w.heap.size + 1 + 1) (w.heap.size + 5) W (w1.setCell ⟨w.heap.size + 1 + 1, 0, none⟩ (.slice (some ⟨g', 0, none⟩) (pre.length + 1) cap')) :=
      Keep.setCell (Keep.grown ((Keep.refl _ W).alloc _) hgrow2 (fun k e _ => .inr (by
        rcases hrow.2 with ⟨rfl, _⟩ | ⟨g, cap, cur, rfl, hb, _, _⟩
        · simp [Value.ownBlock] at e
        · obtain rfl : g = k := by simpa [Value.ownBlock] using e
          exact hb))) (p := ⟨w.heap.size + 1 + 1, 0, none⟩) (fun _ => .inl rfl) _
    refine ⟨hk2.from _, hkp, ⟨_, by simpa using hv2, ?_, trivial⟩, hB.t hkp⟩
    have := hown'.kept (grownBy_setCell' w1 (w.heap.size + 1 + 1) (.slice (some ⟨g', 0, none⟩) (pre.length + 1) cap')) (.inr (hv1.not_row (by decide) hown').symm)
    simpa using this
  case done =>
    rintro D ys W hD hlen ⟨⟨v, hv, hrow, -⟩, hB⟩ hK
    have hc := hv.cell
    have hf := hv.frozen
    obtain ⟨A, k, rfl⟩ := own_slice hrow
    rw [hlen, hm] at hv hc
    gi_wp2
    have hb2 := hv.set (.slice A z.toNat k)
    have hK2 := (KeepsOthers.setCell W ⟨w.heap.size + 1 + 1, 0, none⟩ (.slice A z.toNat k)).same D _ hK rfl
    refine ⟨by simp, .inl ⟨_, _, rfl, run_takeDeferred hK2, ?_⟩⟩
    refine ⟨_, results_box rfl Try.underlying37 _ _ (w.heap.size + 1 + 1) (.slice A z.toNat k) rfl (hb2.kept (grownBy_putObj' _ D _) (fun e => by injection e; omega)).cell, ⟨_, _, rfl⟩, ?_⟩
    exact hk0.fresh ((Keep.setCell hB (p := ⟨w.heap.size + 1 + 1, 0, none⟩) (fun _ => .inl rfl) _).grown (grownBy_putObj' _ D _) (fun k e _ => by cases e; exact .inr (by omega))) (fun i hi => by rcases hi with e | e <;> omega)
  case stop =>
    rintro D c pre W _ _ h _
    exact h.elim
set_option maxRecDepth 100000 in
set_option maxHeartbeats 4000000 in
theorem text_nobody (p : Option Addr) (z : Int) (w : World) (h : SrcP w p []) (hz : z ≤ 200) : Calls Try.prog 13 #[.pointer p, .int .i64 z] w fun e w' => (∃ s, e = .returned (.string s) ∧ s.size = z.toNat) ∧ Keep No w w' := by
  obtain ⟨i0, hi, hz0, hz1, hz2⟩ := info_parts Try.info5
  obtain ⟨m, hm⟩ : ∃ m, m = z.toNat := ⟨_, rfl⟩
  have hm200 : m ≤ 200 := by omega
  refine (callsIn_wide (n := 4)).1 ?_
  refine callsIn_of_wp_marks Try.func13 rfl trivial ?_ rfl
  simp only [Try.ntmps13, List.size_toArray, List.length_cons, List.length_nil, Nat.reduceAdd, Nat.reduceSub, Array.replicate_succ, Array.replicate_zero, List.push_toArray, List.append_toArray, List.nil_append, List.cons_append]
  gi_wp2_with (refine ⟨trivial, ?_⟩; gi_at_call 15; refine (callsIn_wide.2 (times15_any _ _ _ _ _)).mono ?_; rintro e w' ⟨rfl, rfl⟩)
  have cP := (blk_cell (blk_old (blk_old (blk_old (blk_at w (.cells #[.pointer p] 22) rfl) (.cells #[.slice none 0 0] 26)) (.cells #[.int .i64 z] 3)) (.cells #[.func (.func 16) #[] #[.pointer (some ⟨w.heap.size, 0, none⟩)]] 33)) 0).trans rfl
  have bO : Boxed _ (w.heap.size + 1) 26 (.slice none 0 0) := blk_old (blk_old (blk_at (w.alloc (.cells #[.pointer p] 22)) (.cells #[.slice none 0 0] 26) (n := w.heap.size + 1) (by simp)) (.cells #[.int .i64 z] 3)) (.cells #[.func (.func 16) #[] #[.pointer (some ⟨w.heap.size, 0, none⟩)]] 33)
  have cN := (blk_cell (blk_old (blk_at ((w.alloc (.cells #[.pointer p] 22)).alloc (.cells #[.slice none 0 0] 26)) (.cells #[.int .i64 z] 3) (n := w.heap.size + 1 + 1) (by simp)) (.cells #[.func (.func 16) #[] #[.pointer (some ⟨w.heap.size, 0, none⟩)]] 33)) 0).trans rfl
  have cF := (blk_cell (blk_at (((w.alloc (.cells #[.pointer p] 22)).alloc (.cells #[.slice none 0 0] 26)).alloc (.cells #[.int .i64 z] 3)) (.cells #[.func (.func 16) #[] #[.pointer (some ⟨w.heap.size, 0, none⟩)]] 33) (n := w.heap.size + 1 + 1 + 1) (by simp)) 0).trans rfl
  have hk0 : Keep No w ((((w.alloc (.cells #[.pointer p] 22)).alloc (.cells #[.slice none 0 0] 26)).alloc (.cells #[.int .i64 z] 3)).alloc (.cells #[.func (.func 16) #[] #[.pointer (some ⟨w.heap.size, 0, none⟩)]] 33)) := ((((Keep.refl No w).alloc _).alloc _).alloc _).alloc _
  have hsz : ((((w.alloc (.cells #[.pointer p] 22)).alloc (.cells #[.slice none 0 0] 26)).alloc (.cells #[.int .i64 z] 3)).alloc (.cells #[.func (.func 16) #[] #[.pointer (some ⟨w.heap.size, 0, none⟩)]] 33)).heap.size = w.heap.size + 4 := by simp
  generalize (((w.alloc (.cells #[.pointer p] 22)).alloc (.cells #[.slice none 0 0] 26)).alloc (.cells #[.int .i64 z] 3)).alloc (.cells #[.func (.func 16) #[] #[.pointer (some ⟨w.heap.size, 0, none⟩)]] 33) = W0 at *
  have hs0 : SrcP W0 p [] := src_keep h hk0 (fun _ _ h => h)
  have hseq : SeqStopsK Fence.wide (4 - 1) Try.prog 19 #[.pointer (some ⟨w.heap.size + 1 + 1, 0, none⟩), .pointer (some ⟨w.heap.size + 1 + 1 + 1, 0, none⟩)] (fun _ : Unit => #[Value.int .u8 (97 : Nat)]) (KpB (w.heap.size + 1) (w.heap.size + 4)) (fun ys => ys.length = m) (fun pre => pre.length ≤ m) m W0 := fun l J Jx W hW _ _ hY h0 => by
    have hkW : Keep No W0 W := Keep.ofBelow hW
    refine times_text 3 (by decide) l (w.heap.size + 1 + 1) (w.heap.size + 1 + 1 + 1) (w.heap.size + 1) (w.heap.size + 4) m 97 z w.heap.size hm hz ⟨by omega, by omega⟩ ⟨by omega, by omega⟩ W J Jx (fun W' hk => ?_) hY (hkW.cellSome cN (fun h => h)) (hkW.cellSome cF (fun h => h)) h0
    refine text1_any p _ W' (src_keep (src_keep hs0 hkW (fun _ _ h => h)) hk (fun a ha hS => ?_)) (Keep.cellSome hk (hkW.cellSome cP (fun h => h)) (by simp <;> omega))
    have := src_lt h a ha
    rcases hS with e | e <;> omega
  refine wpIn_rangeFunc_ownG rfl (by decide) (gf := 19) (lb := #[.pointer (some ⟨w.heap.size + 1 + 1, 0, none⟩), .pointer (some ⟨w.heap.size + 1 + 1 + 1, 0, none⟩)]) rfl trivial (enters_of Try.func19 (by kernel_rfl) rfl)
    hseq KpB.t (KpB.b (by omega)) (Below.refl _ _) (fun _ => rfl)
    (fun pre W => (∃ v, Boxed W (w.heap.size + 1) 26 v ∧ W.ownsRow (w.heap.size + 4) 5 1 v pre.length (pre.map (fun _ => Value.int .u8 97)) ∧ True) ∧ KpB (w.heap.size + 1) (w.heap.size + 4) W0 W)
    (fun _ _ _ => False)
    (OwnFrom.and (Own.from (holdsRow_own (w.heap.size + 4) (w.heap.size + 1) 26 5 1 (fun (pre : List Unit) => pre.length) (fun pre => pre.map (fun _ => Value.int .u8 97)) (fun _ _ => True)) _) (kpb_own (by omega) W0))
    (fun _ _ _ _ _ hs _ _ => hs)
    ⟨⟨_, bO, World.ownsRow_nil _ _ _ _, trivial⟩, Keep.refl _ _⟩
    (fun _ => { tmps := #[.pointer p, .int .i64 z, .pointer (some ⟨w.heap.size, 0, none⟩), undef, .string { data := #[] }, .func (.func 16) #[] #[.pointer (some ⟨w.heap.size, 0, none⟩)], .pointer (some ⟨w.heap.size + 1, 0, none⟩), .int .u8 97, .func (.func 16) #[] #[.pointer (some ⟨w.heap.size, 0, none⟩)], .int .i64 z, .func (.func 16) #[] #[.pointer (some ⟨w.heap.size, 0, none⟩)],
      .func (.func 19) #[] #[.pointer (some ⟨w.heap.size + 1 + 1, 0, none⟩), .pointer (some ⟨w.heap.size + 1 + 1 + 1, 0, none⟩)], .int .u8 97, undef, undef, undef, undef, undef, undef], defers := [] }) ?assign ?body ?done ?stop
  case assign =>
    intro l x W K hK
    gi_wp2
    exact hK
  case body =>
    rintro l pre x W ⟨⟨v, hv, hrow, -⟩, hB⟩ hlt
    have hc := hv.cell
    gi_wp2_with (gi_at_builtin; refine wpListIn_append_own _ rfl _ _ 26 rfl (w.heap.size + 4) 5 i0 (.int .u8 0) 1 1 Try.underlying26 hi hz0 hz1 hz2 rfl (by decide) _ _ _ rfl (hrow.alloc _) ⟨W.heap.size, 0, none⟩ 1 1 [.int .u8 97] rfl rfl (cell_one_new _ _ _) (by simp [Value.oneCell']) (by simp only [maxLen]; omega) (by omega) (by have := hB.size; simp; omega) ?_; intro v' w1 hown' hgrow _; obtain ⟨g', cap', rfl⟩ := ownsRow_succ hown'; have hgrow2 : (W.alloc (.cells #[.int .u8 97] 5)).grownBy w1 v.ownBlock := hgrow; have hv1 := (hv.alloc (.cells #[.int .u8 97] 5)).kept hgrow2 (hv.not_row (by decide) hrow); have hc1 := hv1.cell; have hf1 := hv1.frozen)
    obtain ⟨-, hv2, -, hk2, -⟩ := hv.appended (n₀ := 0) (by decide) (own_base hrow (fun _ _ => Nat.zero_le _)) (Nat.zero_le _) (Nat.zero_le _) (own_base hown' (fun _ _ => Nat.zero_le _)) hgrow2
    clear hgrow
    have hkp : KpB (w.heap.size + 1) (w.heap.size + 4) W (w1.setCell ⟨w.heap.size + 1, 0, none⟩ (.slice (some ⟨g', 0, none⟩) (pre.length + 1) cap')) :=
      Keep.setCell (Keep.grown ((Keep.refl _ W).alloc _) hgrow2 (fun k e _ => .inr (by
        rcases hrow.2 with ⟨rfl, _⟩ | ⟨g, cap, cur, rfl, hb, _, _⟩
        · simp [Value.ownBlock] at e
        · obtain rfl : g = k := by simpa [Value.ownBlock] using e
          exact hb))) (p := ⟨w.heap.size + 1, 0, none⟩) (fun _ => .inl rfl) _
    refine ⟨hk2.from _, hkp, ⟨_, by simpa using hv2, ?_, trivial⟩, hB.t hkp⟩
    have := hown'.kept (grownBy_setCell' w1 (w.heap.size + 1) (.slice (some ⟨g', 0, none⟩) (pre.length + 1) cap')) (.inr (hv1.not_row (by decide) hown').symm)
    simpa using this
  case done =>
    rintro D ys W hD hlen ⟨⟨v, hv, hrow, -⟩, hB⟩ hK
    have hc := hv.cell
    have hcv : ∃ s : ByteArray, s.size = z.toNat ∧ (convert 26 9 v).run Try.prog W = .ok (.string s) W := by
      rcases Sl.of_own hrow with ⟨rfl, h0, -⟩ | ⟨b, o, c, rfl, -, hx⟩
      · exact ⟨ByteArray.empty, by rw [← hm, ← hlen, h0]; rfl, run_convert_bytes_nil W 26 5 Try.underlying26 Try.underlying5 _ _ 9 Try.underlying9⟩
      · refine ⟨strOfNums (ys.map (fun _ => (97 : Int))), ?_, run_convert_bytes_arg W 26 5 Try.underlying26 Try.underlying5 b o ys.length c (ys.map (fun _ => (97 : Int))) (by simp) (fun i hi => ?_) 9 Try.underlying9⟩
        · rw [← hm, ← hlen]
          simp [strOfNums, ByteArray.size]
        · rw [hx i (.int .u8 97) (by simp [hi])]
          simp [List.getD, hi]
    obtain ⟨s, hs, hcv⟩ := hcv
    obtain ⟨A, k, rfl⟩ := own_slice hrow
    rw [hlen, hm] at hcv hc
    gi_wp2
    refine ⟨by simp, .inl ⟨_, _, rfl, run_takeDeferred hK, ?_⟩⟩
    refine ⟨_, results_tmp rfl _ _ _, ⟨_, rfl, hs⟩, ?_⟩
    exact hk0.fresh (Keep.grown hB (grownBy_putObj' _ D _) (fun k e _ => by cases e; exact .inr (by omega))) (fun i hi => by rcases hi with e | e <;> omega)
  case stop =>
    rintro D c pre W _ _ h _
    exact h.elim
end Go.Proofs.Ytnojbbkpbjobkaa
