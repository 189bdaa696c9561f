/-
  The document's disk: a task more; Flush 64.
  The document's disk: Flush 64.
  The document's disk: a task while it is made.
-/
import Derived.Test.YtimdaioojnohmaaMRTold
import Derived.Test.YtimdaioojnohmaaMDPlain
namespace Go.Proofs.Ytimdaioojnohmaa
open Go.RowKit Go.Maps
section
variable {X : Nat → Prop} {B hi : Nat} {w w' : World} {g qb : Nat} {D : DD} {C T : Value} {vs : Nat → RV} {lo : Nat → Nat}
/-- What an append to the tasks may write. -/
def TA (B g : Nat) : Nat → Option TypeId → Prop := fun k s => (k = g ∧ s = some 61) ∨ (B ≤ k ∧ s = some 149)
theorem TA.td (hg : B ≤ g) : ∀ k s, TA B g k s → TD X B k s := fun k s h => by
  rcases h with ⟨rfl, e⟩ | ⟨h, e⟩
  · exact ⟨hg, by simp [e]⟩
  · exact ⟨h, by simp [e]⟩
theorem RD.add (h : RD X B hi w g D qb C T vs lo) (t : DTask) (v : RV) (A : Option Addr) (k : Nat)
    (hb : w'.heap[g]? = some (.cells #[.int .u32 (D.per : Nat), .int .u32 (D.blocks : Nat), C, .pointer (some ⟨qb, 0, none⟩), .slice A (D.ts.length + 1) k] 61 (0, 0)))
    (ho : w'.ownsRow 0 149 6 (.slice A (D.ts.length + 1) k) (D.ts.length + 1) ((List.range D.ts.length).flatMap (fun i => tcell (D.ts.getD i default) (vs i)) ++ tcell t v))
    (hB : ∀ b, (Value.slice A (D.ts.length + 1) k).ownBlock = some b → B ≤ b) (hk : KeepZ (TA B g) w w') (ht : RTAt X w' (lo D.ts.length) w'.heap.size t v) :
    RD X B w'.heap.size w' g { D with ts := D.ts ++ [t] } qb C (.slice A (D.ts.length + 1) k) (fun i => if i < D.ts.length then vs i else v) (fun i => if i ≤ D.ts.length then lo i else w'.heap.size) := by
  have no : ∀ k s, s = some 109 ∨ s = some 111 ∨ s = some 4 ∨ s = some 9 ∨ s = some 137 ∨ s = some 29 → ¬ TA B g k s := fun k s e h => by
    rcases e with rfl | rfl | rfl | rfl | rfl | rfl <;> rcases h with ⟨_, h⟩ | ⟨_, h⟩ <;> simp at h
  have hlen : (D.ts ++ [t]).length = D.ts.length + 1 := by simp
  have hold : ∀ i, i < D.ts.length → (D.ts ++ [t]).getD i default = D.ts.getD i default := fun i hi => by
    rw [List.getD_eq_getElem?_getD, List.getElem?_append_left hi, ← List.getD_eq_getElem?_getD]
  have hnew : (D.ts ++ [t]).getD D.ts.length default = t := by simp [List.getD_eq_getElem?_getD]
  refine ⟨hb, h.base, h.q.keep hk (fun k => ⟨no _ _ (by simp), no _ _ (by simp)⟩), ?_, ?_, fun i hi => ?_, fun i => ?_, ?_, ?_, Nat.le_refl _⟩
  · obtain ⟨A, k, e, ho, hb⟩ := h.c
    exact ⟨A, k, e, hk.row ho (fun i _ => no _ _ (by simp)), hb⟩
  · simp only [hlen]
    refine ⟨A, k, rfl, ?_, hB⟩
    have e : (List.range (D.ts.length + 1)).flatMap (fun i => tcell ((D.ts ++ [t]).getD i default) (if i < D.ts.length then vs i else v)) = (List.range D.ts.length).flatMap (fun i => tcell (D.ts.getD i default) (vs i)) ++ tcell t v := by
      rw [List.range_succ, List.flatMap_append]
      congr 1
      · rw [List.flatMap_def, List.flatMap_def]
        congr 1
        apply List.map_congr_left
        intro i hi
        have hi := List.mem_range.1 hi
        rw [hold i hi, if_pos hi]
      · rw [List.flatMap_cons, List.flatMap_nil, List.append_nil, hnew, if_neg (Nat.lt_irrefl _)]
    rw [e]
    exact ho
  · simp only [hlen] at hi
    by_cases e : i < D.ts.length
    · simp only [hold i e, if_pos e, if_pos (show i ≤ D.ts.length by omega), if_pos (show i + 1 ≤ D.ts.length by omega)]
      exact (h.ts i e).keepZ hk (fun k _ _ => ⟨no _ _ (by simp), no _ _ (by simp), no _ _ (by simp)⟩) (fun k _ => no _ _ (by simp))
    · obtain rfl : i = D.ts.length := by omega
      simp only [hnew, if_neg (Nat.lt_irrefl _), if_pos (Nat.le_refl _), if_neg (show ¬ (D.ts.length + 1 ≤ D.ts.length) by omega)]
      exact ht
  · have h1 := h.mono i
    have h2 : ∀ j, j ≤ D.ts.length → lo j ≤ w'.heap.size := fun j hj => Nat.le_trans (Nat.le_trans (Nat.le_trans (lo_le h.mono hj) h.hi1) h.hi2) hk.size
    by_cases e : i + 1 ≤ D.ts.length
    · rw [if_pos (by omega), if_pos e]
      exact h1
    · rw [if_neg e]
      split
      · exact h2 _ (by omega)
      · exact Nat.le_refl _
  · simp only [Nat.zero_le, if_true]
    exact h.lo0
  · simp only [hlen]
    rw [if_neg (by omega)]
    exact Nat.le_refl _
end
end Go.Proofs.Ytimdaioojnohmaa

namespace Go.Proofs.Ytimdaioojnohmaa
open Go.RowKit Go.Maps
theorem qput_fail (most : Nat) (l : QL) (id now : Nat) (h : (qput most l id now).1 ≠ 0) : (qput most l id now).2 = l := by
  unfold qput at h ⊢
  split
  · rfl
  · split
    · rfl
    · rename_i a b
      rw [if_neg a, if_neg b] at h
      exact absurd rfl h
theorem WOk.snoc {D : DD} (h : WOk D) (t : DTask) (q : QL) (h1 : t.wants.length ≤ D.ts.length) (h2 : ∀ k ∈ t.wants, 1 ≤ k ∧ k ≤ D.ts.length) : WOk { D with q := q, ts := D.ts ++ [t] } := fun i => by
  show ((D.ts ++ [t]).getD i default).wants.length ≤ (D.ts ++ [t]).length ∧ ∀ k ∈ ((D.ts ++ [t]).getD i default).wants, 1 ≤ k ∧ k ≤ (D.ts ++ [t]).length
  rw [getD_snoc, List.length_append]
  by_cases e : i < D.ts.length
  · rw [if_pos e]
    exact ⟨Nat.le_trans (h i).1 (Nat.le_add_right _ _), fun k hk => ⟨((h i).2 k hk).1, Nat.le_trans ((h i).2 k hk).2 (Nat.le_add_right _ _)⟩⟩
  · rw [if_neg e]
    by_cases e2 : i = D.ts.length
    · rw [if_pos e2]
      exact ⟨Nat.le_trans h1 (Nat.le_add_right _ _), fun k hk => ⟨(h2 k hk).1, Nat.le_trans (h2 k hk).2 (Nat.le_add_right _ _)⟩⟩
    · rw [if_neg e2]
      exact ⟨Nat.zero_le _, fun k hk => by cases hk⟩
/-- Each write has parts. -/
def WNe (D : DD) : Prop := ∀ i, (D.ts.getD i default).write = true → (D.ts.getD i default).parts ≠ []
theorem rkind1 (t : DTask) (h : t.write = true → t.parts ≠ []) : rkind t = 1 ↔ t.write = true := by
  unfold rkind
  by_cases hp : t.parts = []
  · rw [if_pos hp]
    exact ⟨fun e => by omega, fun e => absurd hp (h e)⟩
  · rw [if_neg hp]
    cases t.write <;> simp
section
variable {X : Nat → Prop} {B hi : Nat} {w w' : World} {g qb : Nat} {D : DD} {C T : Value} {vs : Nat → RV} {lo : Nat → Nat}
set_option maxRecDepth 100000 in
set_option maxHeartbeats 4000000 in
theorem rflush_any (now : Nat) (h : RD X B hi w g D qb C T vs lo) (few : D.ts.length ≤ 1048575) (hwok : WOk D) (hwn : WNe D) (hX : ∀ k, X k → k < w.heap.size) :
    Calls Try.prog 64 #[.pointer (some ⟨g, 0, none⟩), .int .u64 (now : Nat)] w fun e w' => e = .returned (.tuple #[.int .u64 ((dflush D now).1 : Nat), .int .i64 ((dflush D now).2.1 : Nat)]) ∧
      (∃ T' vs' lo', RD X B w'.heap.size w' g (dflush D now).2.2 qb C T' vs' lo') ∧ KeepZ (TD X B) w w' := by
  have c4 := h.cells.2.2.2.2
  have c3 := h.cells.2.2.2.1
  have HP := Lib.hid (rput_any B qb D.most D.pat (D.ts.length + 1) now D.q w h.q h.bsize)
  have H0 := Lib.hid h
  obtain ⟨AT, kT, rfl, -, -⟩ := h.t
  have hw := IntWalk.u64_in (D.ts.length : Int) (by omega)
  have hw1 := IntWalk.u64_in ((D.ts.length : Int) + 1) (by omega)
  unfold dflush dadd
  by_cases hq : (qput D.most D.q (D.ts.length + 1) now).1 = 0
  · rw [if_pos hq]
    simp only
    rw [if_pos trivial]
    rw [hq] at HP
    obtain ⟨q2, hq2⟩ : ∃ q2, q2 = (qput D.most D.q (D.ts.length + 1) now).2 := ⟨_, rfl⟩
    rw [← hq2] at HP ⊢
    have HWOK := Lib.hid hwok
    have HWN := Lib.hid hwn
    have HX := Lib.hid hX
    clear h hwok hwn hq hq2 hX
    go_enter Try.func64, Try.ntmps64
    go_wp2_with fail
    refine HP.out.mono ?_
    rintro e w1 ⟨rfl, hq1, hk1⟩
    have h1 := H0.out.queue hq1 hk1
    have H1 := Lib.hid h1
    have d4 := h1.cells.2.2.2.2
    have HK1 := Lib.hid (hk1.mono (TR.td (X := X)))
    clear h1 hq1 hk1
    go_wp2_with fail
    go_loopw [9] (fun iv wr => ∃ i ids A k, i ≤ D.ts.length ∧ iv = .int .i64 (i : Nat) ∧ Hid (ids = waitsTo D.ts (·.write) i) ∧ ids.length ≤ i ∧ Hid (wr.heap[w1.heap.size]? = some (.cells #[.int .i64 3, .slice none 0 0, .slice none 0 0, .slice none 0 0, .slice A ids.length k, .int .i64 1] 149 (0, 0))) ∧
      Hid (wr.ownsRow 0 29 1 (.slice A ids.length k) ids.length (ids.map u64v)) ∧ Hid (∀ b, (Value.slice A ids.length k).ownBlock = some b → w1.heap.size ≤ b) ∧ Hid (Keep No w1 wr)) (fun iv _ => D.ts.length - (intOf iv).toNat)
    case atStart => exact ⟨0, [], none, 0, Nat.zero_le _, rfl, rfl, Nat.zero_le _, by show _ = _; exact blk_at _ _ rfl, World.ownsRow_nil _ _ _ _, fun b hb => by simp [Value.ownBlock] at hb, by show Keep _ _ _; exact (Keep.refl _ _).alloc _⟩
    case round =>
      obtain ⟨i, ids, A, k, hi', rfl, hids, hil, hblk, ho, hA, hk⟩ := hrel
      have e4 := hk.out.cellSome d4 (fun h => h)
      by_cases hlt : i < D.ts.length
      · obtain ⟨b, kk, hv, hlk, -, -, hcell⟩ := H1.out.row (by exact Nat.lt_of_le_of_lt (Nat.zero_le _) hlt)
        injection hv with hAA le hcc
        clear le
        subst hAA hcc
        have t0 := hk.out.cellSome (hcell i hlt 0 _ (by omega) rfl) (fun h => h)
        have t5 := hk.out.cellSome (hcell i hlt 5 _ (by omega) rfl) (fun h => h)
        simp only [Nat.add_zero] at t0 t5
        have hk1 := rkind1 (D.ts.getD i default) (HWN.out i)
        have hg := getD_at D.ts i hlt
        have hhit := fun a b => waitsTo_hit D.ts (·.write) i hlt a b
        have hmiss := fun a => waitsTo_miss D.ts (·.write) i hlt a
        rw [← hg] at hhit hmiss
        clear hcell hg
        by_cases c1 : rkind (D.ts.getD i default) = 1
        · by_cases c2 : (D.ts.getD i default).state = 1
          · have HH := Lib.hid (hhit c2 (hk1.1 c1))
            rw [c1] at t0
            rw [c2] at t5
            clear hhit hmiss hk1 c1 c2
            have cF := (blk_cell hblk.out 4).trans rfl
            have hwn : (wr.alloc (.cells #[.int .u64 ((i : Int) + 1)] 29)).ownsRow 0 29 1 (.slice A ids.length k) ids.length (ids.map u64v) := ho.out.alloc _
            have hso : Sl (wr.alloc (.cells #[.int .u64 ((i : Int) + 1)] 29)) (.slice (some ⟨wr.heap.size, 0, none⟩) 1 1) 1 ([i + 1].map u64v) := Sl.lit _ _ 29 1
            have hone := u64v_one [i + 1]
            have h63 : ids.length + 1 ≤ maxLen := by simp only [maxLen]; omega
            have kn : Keep No w1 (wr.alloc (.cells #[.int .u64 ((i : Int) + 1)] 29)) := hk.out.alloc _
            have hiw := IntWalk.u64_in (i : Int) (by omega)
            have hiw1 := IntWalk.u64_in ((i : Int) + 1) (by omega)
            have hne : ∀ b, (Value.slice A ids.length k).ownBlock = some b → w1.heap.size ≠ b := fun b e => by
              obtain ⟨cur, hcur⟩ := own_blk ho.out e
              exact blk_ne hblk.out hcur (by decide)
            have hKB : ∀ w', Keep (Own (.slice A ids.length k)) (wr.alloc (.cells #[.int .u64 ((i : Int) + 1)] 29)) w' → w'.heap[w1.heap.size]? = some (.cells #[.int .i64 3, .slice none 0 0, .slice none 0 0, .slice none 0 0, .slice A ids.length k, .int .i64 1] 149 (0, 0)) :=
              fun w' hk' => hk'.blk (blk_old hblk.out _) (fun e => hne _ e rfl)
            go_wp2_with (at_builtin; refine wpList_app rfl _ _ 41 rfl 29 _ 1 8 Try.underlying41 Try.info29 rfl (by decide) _ ids.length _ hwn rfl _ 1 ([i + 1].map u64v) hso rfl rfl hone (by omega) h63 ?_; intro A' k' w' ho' hk' hn'; have hb' := hKB w' hk'; have fr := blk_free hb' 4; have cc := (blk_cell hb' 4).trans rfl; have HB' := Lib.hid hb'; clear hb')
            have hkk := kn.fresh hk' hA.out
            refine ⟨⟨i + 1, ids ++ [i + 1], A', k', by omega, by simp, by show _ = _; rw [HH.out, hids.out], by simp; omega, ?_, ?_, ?_, ?_⟩, by simp [intOf]; omega⟩
            · show _ = _
              rw [List.length_append]; exact blk_set HB'.out 4 _
            · show World.ownsRow _ _ _ _ _ _ _
              rw [List.length_append, List.map_append]
              refine ownsRow_setCell_other ho' (fun e => ?_) _
              obtain ⟨cur, hcur⟩ := own_blk ho' e
              exact blk_ne HB'.out hcur (by decide) rfl
            · intro b hb
              rw [List.length_append] at hb
              rcases hn' b hb with e | e
              · exact hA.out b e
              · have := kn.size; omega
            · exact hkk.setCell (fun e => (Nat.lt_irrefl _ e).elim) _
          · have HM := Lib.hid (hmiss (fun e => c2 e.1))
            rw [c1] at t0
            have hb2 : (((D.ts.getD i default).state : Int) == 1) = false := beq_eq_false_iff_ne.2 (by omega)
            clear hhit hmiss hk1 c1 c2
            generalize (D.ts.getD i default).state = st at *
            go_wp2_with fail
            exact ⟨⟨i + 1, ids, A, k, by omega, by simp, by rw [HM.out]; exact hids, by omega, hblk, ho, hA, hk⟩, by simp [intOf]; omega⟩
        · have HM := Lib.hid (hmiss (fun e => c1 (hk1.2 e.2)))
          have hb2 : ((rkind (D.ts.getD i default) : Int) == 1) = false := beq_eq_false_iff_ne.2 (by omega)
          clear hhit hmiss hk1 c1
          generalize rkind (D.ts.getD i default) = rk at *
          go_wp2_with fail
          exact ⟨⟨i + 1, ids, A, k, by omega, by simp, by rw [HM.out]; exact hids, by omega, hblk, ho, hA, hk⟩, by simp [intOf]; omega⟩
      · obtain rfl : i = D.ts.length := by omega
        have hr := H1.out.no hk.out
        obtain ⟨A0, k0, eT, hoT, hbT⟩ := hr.t
        injection eT with e1 _ e2
        subst e1 e2
        have b0 := (blk_cell hblk.out 0).trans rfl
        have b1 := (blk_cell hblk.out 1).trans rfl
        have b2 := (blk_cell hblk.out 2).trans rfl
        have b3 := (blk_cell hblk.out 3).trans rfl
        have b4 := (blk_cell hblk.out 4).trans rfl
        have b5 := (blk_cell hblk.out 5).trans rfl
        have hGB := hr.blk
        have HR := Lib.hid hr
        have hids' : ids = dwaitOf D.ts (·.write) := by rw [hids.out]; rfl
        have HIDS := Lib.hid hids'
        have hrk : tcell ⟨[], false, ids, 1⟩ ⟨.slice none 0 0, .slice none 0 0, .slice none 0 0, .slice A ids.length k⟩ = [.int .i64 3, .slice none 0 0, .slice none 0 0, .slice none 0 0, .slice A ids.length k, .int .i64 1] := rfl
        clear hids'
        have hwn : ((wr.alloc (.cells #[.int .i64 3, .slice none 0 0, .slice none 0 0, .slice none 0 0, .slice A ids.length k, .int .i64 1] 149)).drew).ownsRow 0 149 6 (.slice AT D.ts.length kT) D.ts.length ((List.range D.ts.length).flatMap (fun i => tcell (D.ts.getD i default) (vs i))) := World.ownsRow.alloc hoT _
        have hso : Sl ((wr.alloc (.cells #[.int .i64 3, .slice none 0 0, .slice none 0 0, .slice none 0 0, .slice A ids.length k, .int .i64 1] 149)).drew) (.slice (some ⟨wr.heap.size, 0, none⟩) 1 1) 1 (tcell ⟨[], false, ids, 1⟩ ⟨.slice none 0 0, .slice none 0 0, .slice none 0 0, .slice A ids.length k⟩) := Sl.lit wr _ 149 1
        have hone : ∀ u ∈ tcell ⟨[], false, ids, 1⟩ ⟨.slice none 0 0, .slice none 0 0, .slice none 0 0, .slice A ids.length k⟩, u.oneCell' = true := by
          rw [hrk]; intro u hu; simp at hu; rcases hu with rfl | rfl | rfl | rfl <;> rfl
        have h63 : D.ts.length + 1 ≤ maxLen := by simp only [maxLen]; omega
        have kn : Keep No wr ((wr.alloc (.cells #[.int .i64 3, .slice none 0 0, .slice none 0 0, .slice none 0 0, .slice A ids.length k, .int .i64 1] 149)).drew) := ((Keep.refl No wr).alloc _).drew
        have hKB : ∀ w', Keep (Own (.slice AT D.ts.length kT)) ((wr.alloc (.cells #[.int .i64 3, .slice none 0 0, .slice none 0 0, .slice none 0 0, .slice A ids.length k, .int .i64 1] 149)).drew) w' → w'.heap[g]? = some (.cells #[.int .u32 (D.per : Nat), .int .u32 (D.blocks : Nat), C, .pointer (some ⟨qb, 0, none⟩), .slice AT D.ts.length kT] 61 (0, 0)) :=
          fun w' hk' => hk'.blk (kn.blk hGB (fun h => h)) (fun e => by
            obtain ⟨cur, hcur⟩ := own_blk hoT e
            exact blk_ne hGB hcur (by decide) rfl)
        clear hrk
        have e4a := kn.cellSome e4 (fun h => h)
        have e4b : (wr.alloc (.cells #[.int .i64 3, .slice none 0 0, .slice none 0 0, .slice none 0 0, .slice A ids.length k, .int .i64 1] 149)).cell? ⟨g, 4, none⟩ = some (.slice AT D.ts.length kT) := e4a
        go_wp2_with fail
        go_region_law (refine step_app rfl _ _ 59 rfl 149 _ 6 112 Try.underlying59 Try.info149 rfl (by decide) _ D.ts.length _ hwn rfl _ 1 _ hso rfl rfl hone (by omega) h63 ?_; intro A' k' w' ho' hk' hn'; have hb' := hKB w' hk'; have fr := blk_free hb' 4; have cc := (blk_cell hb' 4).trans rfl; have HB' := Lib.hid hb'; clear hb')
        all_goals (
          have hkT : KeepZ (TA B g) wr (w'.setCell ⟨g, 4, none⟩ (.slice A' (D.ts.length + 1) k')) := ((KeepZ.of kn).own hwn hk' (fun i hi => .inr ⟨hbT i hi, rfl⟩)).setCell HB'.out (.inl ⟨rfl, rfl⟩) _
          have hg' := blk_set HB'.out 4 (.slice A' (D.ts.length + 1) k')
          have ho2 := ownsRow_setCell_other ho' (a := ⟨g, 4, none⟩) (fun e => by
            obtain ⟨cur, hcur⟩ := own_blk ho' e
            exact blk_ne HB'.out hcur (by decide) rfl) (.slice A' (D.ts.length + 1) k')
          have hB2 : ∀ b, (Value.slice A' (D.ts.length + 1) k').ownBlock = some b → B ≤ b := fun b hb => by
            rcases hn' b hb with e | e
            · exact hbT b e
            · have := HR.out.bsize
              have := kn.size
              omega
          have nil_ : ∀ (W : World) (e : TypeId) (size lo hi : Nat), RowIn W e size lo hi 0 (.slice none 0 0) [] := fun W e size lo hi => ⟨none, 0, rfl, World.ownsRow_nil _ _ _ _, fun b hb => by simp [Value.ownBlock] at hb⟩
          have hF : RX X (w'.setCell ⟨g, 4, none⟩ (.slice A' (D.ts.length + 1) k')) (.slice A ids.length k) ids := ⟨⟨A, k, rfl, hkT.row ho.out (fun i _ h => by rcases h with ⟨_, h⟩ | ⟨_, h⟩ <;> simp at h)⟩, fun b hb e => by
            have h1 := hA.out b hb
            have h2 := HX.out b e
            have h3 := HK1.out.size
            omega⟩
          have hadd := HR.out.add ⟨[], false, ids, 1⟩ ⟨.slice none 0 0, .slice none 0 0, .slice none 0 0, .slice A ids.length k⟩ A' k' hg' ho2 hB2 hkT ⟨nil_ _ _ _ _ _, nil_ _ _ _ _ _, nil_ _ _ _ _ _, hF⟩
          have hkk : KeepZ (TD X B) w (w'.setCell ⟨g, 4, none⟩ (.slice A' (D.ts.length + 1) k')) := (HK1.out.then hk.out).trans (hkT.mono (TA.td HR.out.base))
          have HKK := Lib.hid hkk
          have hwk := HWOK.out.snoc ⟨[], false, ids, 1⟩ q2 (by show ids.length ≤ _; exact hil) (by rw [show (DTask.mk [] false ids 1).wants = dwaitOf D.ts (·.write) from HIDS.out]; exact dwait_range D.ts _)
          have HFL := Lib.hid (rflushes_any hadd (by show (D.ts ++ [_]).length ≤ _; simp; omega) hwk)
          rw [HIDS.out] at HFL
          clear hadd hwk hkk hkT hg' ho2 hB2 nil_ hF
          go_wp2_with fail
          refine HFL.out.mono ?_
          rintro e w5 ⟨⟨v, rfl⟩, hr5, hk5⟩
          have HR5 := Lib.hid hr5
          clear hr5
          go_wp2_with fail
          go_ret2
          exact ⟨rfl, ⟨_, _, _, HR5.out.up HR5.out.hi2 (Nat.le_refl _)⟩, HKK.out.trans hk5⟩)
  · rw [if_neg hq]
    have hqf := qput_fail _ _ _ _ hq
    rw [hqf] at HP
    simp only [if_neg hq]
    generalize (qput D.most D.q (D.ts.length + 1) now).1 = code at *
    have hne : ((code : Int) != 0) = true := by rw [bne_iff_ne]; omega
    clear h hqf hwok hwn hq
    go_enter Try.func64, Try.ntmps64
    go_wp2_with fail
    refine HP.out.mono ?_
    rintro e w1 ⟨rfl, hq1, hk1⟩
    have h1 := H0.out.queue hq1 hk1
    have H1 := Lib.hid h1
    clear h1 hq1
    go_wp2_with fail
    go_ret2
    exact ⟨rfl, ⟨_, _, _, H1.out.up H1.out.hi2 (Nat.le_refl _)⟩, hk1.mono TR.td⟩
end
end Go.Proofs.Ytimdaioojnohmaa

namespace Go.Proofs.Ytimdaioojnohmaa
open Go.RowKit Go.Maps
/-- A task while it is made: pv, tv, sv: the slices that lie in its block; qp, qt, qs: those that grow. -/
structure RB (W w : World) (tb kind : Nat) (pv tv sv qp : Value) (np : Nat) (cp : List Value) (qt : Value) (nt : Nat) (ct : List Value) (qs : Value) (ns : Nat) (cs : List Value) : Prop where
  keep : Keep No W w
  tbn : W.heap.size ≤ tb
  task : w.heap[tb]? = some (.cells #[.int .i64 (kind : Nat), pv, tv, sv, .slice none 0 0, .int .i64 1] 149 (0, 0))
  p : w.ownsRow 0 137 7 qp np cp
  pin : ∀ b, qp.ownBlock = some b → W.heap.size ≤ b
  t : w.ownsRow 0 4 1 qt nt ct
  tin : ∀ b, qt.ownBlock = some b → W.heap.size ≤ b
  s : w.ownsRow 0 9 1 qs ns cs
  sin : ∀ b, qs.ownBlock = some b → W.heap.size ≤ b
section
variable {W w w' : World} {tb kind np nt ns : Nat} {pv tv sv qp qt qs : Value} {cp ct cs : List Value}
theorem RB.no (h : RB W w tb kind pv tv sv qp np cp qt nt ct qs ns cs) (hk : Keep No w w') : RB W w' tb kind pv tv sv qp np cp qt nt ct qs ns cs :=
  ⟨h.keep.trans hk, h.tbn, hk.blk h.task (fun h => h), own_keep h.p hk (fun _ _ h => h), h.pin, own_keep h.t hk (fun _ _ h => h), h.tin, own_keep h.s hk (fun _ _ h => h), h.sin⟩
theorem RB.set_ (h : RB W w tb kind pv tv sv qp np cp qt nt ct qs ns cs) (i : Nat) (u : Value) (kind' : Nat) (pv' tv' sv' : Value) (e : #[.int .i64 (kind : Nat), pv, tv, sv, .slice none 0 0, .int .i64 1].setIfInBounds i u = #[.int .i64 (kind' : Nat), pv', tv', sv', .slice none 0 0, .int .i64 1]) :
    RB W (w.setCell ⟨tb, i, none⟩ u) tb kind' pv' tv' sv' qp np cp qt nt ct qs ns cs := by
  have far : ∀ {e : TypeId} {size : Nat} {v : Value} {n : Nat} {xs : List Value}, w.ownsRow 0 e size v n xs → e ≠ 149 → (w.setCell ⟨tb, i, none⟩ u).ownsRow 0 e size v n xs := fun ho hne => ownsRow_setCell_other ho (a := ⟨tb, i, none⟩) (fun e => by
    obtain ⟨cur, hcur⟩ := own_blk ho e
    exact blk_ne h.task hcur (Ne.symm hne) rfl) u
  refine ⟨h.keep.setCell (fun e => absurd e (by have := h.tbn; simp only; omega)) u, h.tbn, ?_, far h.p (by decide), h.pin, far h.t (by decide), h.tin, far h.s (by decide), h.sin⟩
  rw [← e]
  exact blk_set h.task i u
theorem RB.setP (h : RB W w tb kind pv tv sv qp np cp qt nt ct qs ns cs) (u : Value) : RB W (w.setCell ⟨tb, 1, none⟩ u) tb kind u tv sv qp np cp qt nt ct qs ns cs := h.set_ 1 u kind u tv sv rfl
theorem RB.setT (h : RB W w tb kind pv tv sv qp np cp qt nt ct qs ns cs) (u : Value) : RB W (w.setCell ⟨tb, 2, none⟩ u) tb kind pv u sv qp np cp qt nt ct qs ns cs := h.set_ 2 u kind pv u sv rfl
theorem RB.setS (h : RB W w tb kind pv tv sv qp np cp qt nt ct qs ns cs) (u : Value) : RB W (w.setCell ⟨tb, 3, none⟩ u) tb kind pv tv u qp np cp qt nt ct qs ns cs := h.set_ 3 u kind pv tv u rfl
theorem RB.cell (h : RB W w tb kind pv tv sv qp np cp qt nt ct qs ns cs) : w.cell? ⟨tb, 0, none⟩ = some (.int .i64 (kind : Nat)) ∧ w.cell? ⟨tb, 1, none⟩ = some pv ∧ w.cell? ⟨tb, 2, none⟩ = some tv ∧ w.cell? ⟨tb, 3, none⟩ = some sv ∧ w.cell? ⟨tb, 4, none⟩ = some (.slice none 0 0) ∧ w.cell? ⟨tb, 5, none⟩ = some (.int .i64 1) :=
  ⟨(blk_cell h.task 0).trans rfl, (blk_cell h.task 1).trans rfl, (blk_cell h.task 2).trans rfl, (blk_cell h.task 3).trans rfl, (blk_cell h.task 4).trans rfl, (blk_cell h.task 5).trans rfl⟩
/-- What an append to a row of the task's leaves. -/
theorem RB.grown {e : TypeId} {size n : Nat} {v : Value} {xs : List Value} (h : RB W w tb kind pv tv sv qp np cp qt nt ct qs ns cs) (ho : w.ownsRow 0 e size v n xs) (hin : ∀ b, v.ownBlock = some b → W.heap.size ≤ b) (hk : Keep (Own v) w w') (he : e ≠ 149) :
    Keep No W w' ∧ w'.heap[tb]? = some (.cells #[.int .i64 (kind : Nat), pv, tv, sv, .slice none 0 0, .int .i64 1] 149 (0, 0)) ∧ ∀ {e' : TypeId} {size' n' : Nat} {v' : Value} {xs' : List Value}, w.ownsRow 0 e' size' v' n' xs' → e' ≠ e → w'.ownsRow 0 e' size' v' n' xs' := by
  have hz : KeepZ (fun _ s => s = some e) w w' := Keep.mono hk (fun i _ hi => by obtain ⟨cur, hcur⟩ := own_blk ho hi; exact ⟨_, hcur, rfl⟩)
  exact ⟨h.keep.fresh hk hin, hz.blk h.task (fun e2 => he (by simpa [sig] using e2.symm)), fun ho' hne => hz.row ho' (fun _ _ e2 => hne (by simpa using e2))⟩
theorem wpList_bp {ops : Array Oper} {rest : List Oper} {o : Oper} {a : Act} {Q : Exit → Act → World → Prop} (hgd : o.guard = none) (ds sr : Operand)
    (ho : o.op = .call { callee := .builtin .append, args := #[ds, sr], argTypes := #[55, 55] }) {A : Option Addr} {k : Nat} (p : DPart) (z : Nat)
    (hB : RB W w tb kind pv tv sv (.slice A np k) np cp qt nt ct qs ns cs) (hz : w.heap[z]? = some (.cells (acells p).toArray 137 (0, 0))) (hv : a.eval ds = .slice A np k) (hx : a.eval sr = .slice (some ⟨z, 0, none⟩) 1 1) (hb : np ≤ 4096)
    (h : ∀ A' c' w', RB W w' tb kind pv tv sv (.slice A' (np + 1) c') (np + 1) (cp ++ acells p) qt nt ct qs ns cs → wpList Try.prog ops Q rest (a.put o.dst (.slice A' (np + 1) c')) w') : wpList Try.prog ops Q (o :: rest) a w := by
  have hs : Sl w (.slice (some ⟨z, 0, none⟩) 1 1) 1 (acells p) := .inr ⟨z, 0, 1, rfl, Nat.le_refl _, fun j u hj => by rw [blk_cell hz, Nat.zero_add]; simpa using hj⟩
  refine wpList_app hgd ds sr 55 ho 137 _ 7 56 Try.underlying55 Try.info137 rfl (by decide) _ np _ hB.p hv _ 1 (acells p) hs hx rfl (acells_one p) (by omega) (by simp only [maxLen]; omega) ?_
  intro A' c' w' ho' hk' hn'
  obtain ⟨g1, g2, g3⟩ := hB.grown hB.p hB.pin hk' (by decide)
  refine h A' c' w' ⟨g1, hB.tbn, g2, ho', fun b hb => ?_, g3 hB.t (by decide), hB.tin, g3 hB.s (by decide), hB.sin⟩
  rcases hn' b hb with e | e
  · exact hB.pin b e
  · have := hB.keep.size; omega
theorem wpList_bt {ops : Array Oper} {rest : List Oper} {o : Oper} {a : Act} {Q : Exit → Act → World → Prop} (hgd : o.guard = none) (ds sr : Operand)
    (ho : o.op = .call { callee := .builtin .append, args := #[ds, sr], argTypes := #[146, 146] }) {A : Option Addr} {k : Nat} (z : Nat)
    (hB : RB W w tb kind pv tv sv qp np cp (.slice A nt k) nt ct qs ns cs) (hz : w.heap[z]? = some (.cells #[.bool false] 4 (0, 0))) (hv : a.eval ds = .slice A nt k) (hx : a.eval sr = .slice (some ⟨z, 0, none⟩) 1 1) (hb : nt ≤ 4096)
    (h : ∀ A' c' w', RB W w' tb kind pv tv sv qp np cp (.slice A' (nt + 1) c') (nt + 1) (ct ++ [.bool false]) qs ns cs → wpList Try.prog ops Q rest (a.put o.dst (.slice A' (nt + 1) c')) w') : wpList Try.prog ops Q (o :: rest) a w := by
  have hs : Sl w (.slice (some ⟨z, 0, none⟩) 1 1) 1 [.bool false] := .inr ⟨z, 0, 1, rfl, Nat.le_refl _, fun j u hj => by rw [blk_cell hz, Nat.zero_add]; simpa using hj⟩
  refine wpList_app hgd ds sr 146 ho 4 _ 1 1 Try.underlying146 Try.info4 rfl (by decide) _ nt _ hB.t hv _ 1 [.bool false] hs hx rfl (by intro u hu; simp at hu; subst hu; rfl) (by omega) (by simp only [maxLen]; omega) ?_
  intro A' c' w' ho' hk' hn'
  obtain ⟨g1, g2, g3⟩ := hB.grown hB.t hB.tin hk' (by decide)
  refine h A' c' w' ⟨g1, hB.tbn, g2, g3 hB.p (by decide), hB.pin, ho', fun b hb => ?_, g3 hB.s (by decide), hB.sin⟩
  rcases hn' b hb with e | e
  · exact hB.tin b e
  · have := hB.keep.size; omega
theorem wpList_bs {ops : Array Oper} {rest : List Oper} {o : Oper} {a : Act} {Q : Exit → Act → World → Prop} (hgd : o.guard = none) (ds sr : Operand)
    (ho : o.op = .call { callee := .builtin .append, args := #[ds, sr], argTypes := #[147, 147] }) {A : Option Addr} {k : Nat} (z : Nat)
    (hB : RB W w tb kind pv tv sv qp np cp qt nt ct (.slice A ns k) ns cs) (hz : w.heap[z]? = some (.cells #[.string ByteArray.empty] 9 (0, 0))) (hv : a.eval ds = .slice A ns k) (hx : a.eval sr = .slice (some ⟨z, 0, none⟩) 1 1) (hb : ns ≤ 4096)
    (h : ∀ A' c' w', RB W w' tb kind pv tv sv qp np cp qt nt ct (.slice A' (ns + 1) c') (ns + 1) (cs ++ [.string ByteArray.empty]) → wpList Try.prog ops Q rest (a.put o.dst (.slice A' (ns + 1) c')) w') : wpList Try.prog ops Q (o :: rest) a w := by
  have hs : Sl w (.slice (some ⟨z, 0, none⟩) 1 1) 1 [.string ByteArray.empty] := .inr ⟨z, 0, 1, rfl, Nat.le_refl _, fun j u hj => by rw [blk_cell hz, Nat.zero_add]; simpa using hj⟩
  refine wpList_app hgd ds sr 147 ho 9 _ 1 16 Try.underlying147 Try.info9 rfl (by decide) _ ns _ hB.s hv _ 1 [.string ByteArray.empty] hs hx rfl (by intro u hu; simp at hu; subst hu; rfl) (by omega) (by simp only [maxLen]; omega) ?_
  intro A' c' w' ho' hk' hn'
  obtain ⟨g1, g2, g3⟩ := hB.grown hB.s hB.sin hk' (by decide)
  refine h A' c' w' ⟨g1, hB.tbn, g2, g3 hB.p (by decide), hB.pin, g3 hB.t (by decide), hB.tin, ho', fun b hb => ?_⟩
  rcases hn' b hb with e | e
  · exact hB.sin b e
  · have := hB.keep.size; omega
end
end Go.Proofs.Ytimdaioojnohmaa
