/-
  package queue walked: none, All, Len, Has, Put, New.
-/
import Derived.Test.YtimdaioojnohmaaRows64
namespace Go.Proofs.Ytimdaioojnohmaa
open Go.RowKit

/-- A queue of the program at block g; all of it lies from block B on. -/
def QAt (B : Nat) (w : World) (g most pat : Nat) (l : QL) : Prop :=
  ∃ A k, w.heap[g]? = some (.cells #[.int .i64 most, .int .u64 pat, .slice A l.length k] 116 (0, 0)) ∧ w.ownsRow 0 160 2 (.slice A l.length k) l.length (l.flatMap qcells) ∧
    B ≤ g ∧ (∀ b, (Value.slice A l.length k).ownBlock = some b → B ≤ b) ∧ most ≤ 64 ∧ l.length ≤ 64 ∧ pat < 18446744073709551616
/-- What a queue's calls may write. -/
def TQ (B : Nat) : Nat → Option TypeId → Prop := fun k s => B ≤ k ∧ (s = some 116 ∨ s = some 160)

theorem QAt.keep {B : Nat} {w w' : World} {g most pat : Nat} {l : QL} {T : Nat → Option TypeId → Prop} (h : QAt B w g most pat l) (hk : KeepZ T w w') (hT : ∀ k, ¬ T k (some 116) ∧ ¬ T k (some 160)) : QAt B w' g most pat l := by
  obtain ⟨A, k, hb, ho, r⟩ := h
  exact ⟨A, k, hk.blk hb (hT g).1, hk.row ho (fun i _ => (hT i).2), r⟩
theorem QAt.no {B : Nat} {w w' : World} {g most pat : Nat} {l : QL} (h : QAt B w g most pat l) (hk : Keep No w w') : QAt B w' g most pat l :=
  h.keep (T := fun _ _ => False) (KeepZ.of hk) (fun _ => ⟨id, id⟩)

theorem qnone_nil (w : World) : Calls Try.prog 80 #[.pointer none] w fun e w' => e = .returned (.bool true) ∧ w = w' := by
  go_enter Try.func80, Try.ntmps80
  go_wp2_with fail
  go_ret
  exact ⟨rfl, rfl⟩
theorem qnone_any (B g most pat : Nat) (l : QL) (w : World) (h : QAt B w g most pat l) : Calls Try.prog 80 #[.pointer (some ⟨g, 0, none⟩)] w fun e w' => e = .returned (.bool (decide (most = 0))) ∧ w = w' := by
  obtain ⟨A, k, hb, ho, hg, hA, hm, hl, hp⟩ := h
  have c0 := (blk_cell hb 0).trans rfl
  clear hb ho hA hg hp
  by_cases h0 : most = 0
  · subst h0
    go_enter Try.func80, Try.ntmps80
    go_wp2_with fail
    go_ret
    exact ⟨rfl, rfl⟩
  · have h1 : ((most : Int) == 0) = false := beq_eq_false_iff_ne.2 (by omega)
    have HD := Lib.hid (decide_eq_false h0)
    clear h0
    go_enter Try.func80, Try.ntmps80
    go_wp2_with fail
    go_ret
    exact ⟨ret_bool HD.out.symm, rfl⟩

theorem qall_any (B g most pat : Nat) (l : QL) (w : World) (h : QAt B w g most pat l) : Calls Try.prog 43 #[.pointer (some ⟨g, 0, none⟩)] w fun e w' => ∃ r, e = .returned r ∧ New64 w w' r (l.map (·.1)) ∧ Keep No w w' := by
  obtain ⟨A, k, hb, ho, hg, hA, hm, hl, hp⟩ := h
  have c2 := (blk_cell hb 2).trans rfl
  have hi := ids_any _ l w (Sl.of_own ho) (by omega)
  clear hb ho hA hg hp
  go_enter Try.func43, Try.ntmps43
  go_wp2_with fail
  refine hi.mono ?_
  rintro e w' ⟨r, rfl, hr, hk⟩
  go_wp2_with fail
  go_ret
  exact ⟨_, rfl, hr, hk⟩
theorem qall_nil (w : World) : Calls Try.prog 43 #[.pointer none] w fun e w' => e = .returned (.slice none 0 0) ∧ w = w' := by
  go_enter Try.func43, Try.ntmps43
  go_wp2_with fail
  go_ret
  exact ⟨rfl, rfl⟩
theorem qlen_any (B g most pat : Nat) (l : QL) (w : World) (h : QAt B w g most pat l) : Calls Try.prog 53 #[.pointer (some ⟨g, 0, none⟩)] w fun e w' => e = .returned (.int .i64 (l.length : Nat)) ∧ Keep No w w' := by
  have hi := qall_any B g most pat l w h
  clear h
  go_enter Try.func53, Try.ntmps53
  go_wp2_with fail
  refine hi.mono ?_
  rintro e w' ⟨r, rfl, hr, hk⟩
  obtain ⟨A, k, rfl, -, -⟩ := hr
  go_wp2_with fail
  go_ret
  exact ⟨ret_int rfl, hk⟩
theorem mem_ids (l : QL) (id : Nat) : decide (id ∈ l.map (·.1)) = qhas l id := by
  rw [Bool.eq_iff_iff, decide_eq_true_eq]
  unfold qhas
  rw [List.any_eq_true, List.mem_map]
  simp
theorem qhas_any (B g most pat id : Nat) (l : QL) (w : World) (h : QAt B w g most pat l) : Calls Try.prog 54 #[.pointer (some ⟨g, 0, none⟩), .int .u64 id] w fun e w' => e = .returned (.bool (qhas l id)) ∧ Keep No w w' := by
  have hi := qall_any B g most pat l w h
  have hl : l.length ≤ 64 := by obtain ⟨A, k, hb, ho, hg, hA, hm, hl, hp⟩ := h; exact hl
  clear h
  go_enter Try.func54, Try.ntmps54
  go_wp2_with fail
  refine hi.mono ?_
  rintro e w' ⟨r, rfl, hr, hk⟩
  have hc := contains_any r _ id w' hr.n64 (by rw [List.length_map]; omega)
  rw [mem_ids] at hc
  clear hr
  go_wp2_with fail
  refine hc.mono ?_
  rintro e w2 ⟨rfl, rfl⟩
  go_wp2_with fail
  go_ret
  exact ⟨rfl, hk⟩

theorem qput_any (B g most pat id now : Nat) (l : QL) (w : World) (h : QAt B w g most pat l) (h0 : 0 < most) (_hBw : B ≤ w.heap.size) :
    Calls Try.prog 44 #[.pointer (some ⟨g, 0, none⟩), .int .u64 id, .int .u64 now] w fun e w' => e = .returned (.int .i64 ((qput most l id now).1 : Nat)) ∧ QAt B w' g most pat (qput most l id now).2 ∧ KeepZ (TQ B) w w' := by
  have hn := qnone_any B g most pat l w h
  rw [decide_eq_false (by omega)] at hn
  have hh := qhas_any B g most pat id l w h
  have HQ := Lib.hid h
  have HN := Lib.hid hn
  clear hn
  unfold qput
  by_cases hhas : qhas l id = true
  · rw [if_pos hhas]
    rw [hhas] at hh
    have HH := Lib.hid hh
    clear hh hhas h
    go_enter Try.func44, Try.ntmps44
    go_wp2_with fail
    refine HN.out.mono ?_
    rintro e w1 ⟨rfl, rfl⟩
    go_wp2_with fail
    refine HH.out.mono ?_
    rintro e w1 ⟨rfl, hk⟩
    go_wp2_with fail
    go_ret
    exact ⟨rfl, HQ.out.no hk, KeepZ.of hk⟩
  · rw [if_neg hhas]
    rw [Bool.not_eq_true] at hhas
    rw [hhas] at hh
    have HH := Lib.hid hh
    clear hh hhas
    by_cases hfull : most ≤ l.length
    · rw [if_pos hfull]
      clear h
      go_enter Try.func44, Try.ntmps44
      go_wp2_with fail
      refine HN.out.mono ?_
      rintro e w1 ⟨rfl, rfl⟩
      go_wp2_with fail
      refine HH.out.mono ?_
      rintro e w1 ⟨rfl, hk⟩
      have hq1 := HQ.out.no hk
      have HQ1 := Lib.hid hq1
      obtain ⟨A, k, hb, ho, hg, hA, hm, hl, hp⟩ := hq1
      have c0 := (blk_cell hb 0).trans rfl
      have c2 := (blk_cell hb 2).trans rfl
      have hd : decide ((most : Int) ≤ (l.length : Int)) = true := by simp; omega
      clear hb ho hA hg hp
      go_wp2_with fail
      go_quiet (fail)
      go_wp2_with fail
      go_ret
      exact ⟨rfl, HQ1.out.no ((Keep.refl _ _).drewN _), (KeepZ.of hk).drewN _⟩
    · rw [if_neg hfull]
      clear h
      have hfl : l.length < most := by omega
      clear hfull
      go_enter Try.func44, Try.ntmps44
      go_wp2_with fail
      refine HN.out.mono ?_
      rintro e w1 ⟨rfl, rfl⟩
      go_wp2_with fail
      refine HH.out.mono ?_
      rintro e w1 ⟨rfl, hk⟩
      obtain ⟨A, k, hb, ho, hg, hA, hm, hl, hp⟩ := HQ.out.no hk
      have c0 := (blk_cell hb 0).trans rfl
      have c2 := (blk_cell hb 2).trans rfl
      have hd : decide ((most : Int) ≤ (l.length : Int)) = false := by simp; omega
      have HB := Lib.hid hb
      clear hb
      go_wp2_with fail
      go_quiet (fail)
      have hbq : (w1.drewN nq).heap[g]? = some (.cells #[.int .i64 most, .int .u64 pat, .slice A l.length k] 116 (0, 0)) := HB.out
      have hoq : (w1.drewN nq).ownsRow 0 160 2 (.slice A l.length k) l.length (l.flatMap qcells) := ho
      have hkq : Keep No w (w1.drewN nq) := hk.drewN nq
      clear HB c0 c2 ho
      generalize w1.drewN nq = w2 at *
      have c2 := (blk_cell hbq 2).trans rfl
      have HB := Lib.hid hbq
      have hgs : g < w2.heap.size := lt_of_block hbq
      clear hbq
      have hwn : (w2.alloc (.cells #[.int .u64 (id : Nat), .int .u64 (now : Nat)] 160)).ownsRow 0 160 2 (.slice A l.length k) l.length (l.flatMap qcells) := hoq.alloc _
      have hso : Sl (w2.alloc (.cells #[.int .u64 (id : Nat), .int .u64 (now : Nat)] 160)) (.slice (some ⟨w2.heap.size, 0, none⟩) 1 1) 1 (qcells (id, now)) := Sl.lit _ _ 160 1
      have hone := qcells_one (id, now)
      have h63 : l.length + 1 ≤ maxLen := by simp only [maxLen]; omega
      have hne : ∀ b, (Value.slice A l.length k).ownBlock = some b → g ≠ b := fun b hb => by obtain ⟨cur, hcur⟩ := own_blk hoq hb; exact blk_ne HB.out hcur (by decide)
      have hKB : ∀ A' k' w', w'.ownsRow 0 160 2 (.slice A' (l.length + 1) k') (l.length + 1) (l.flatMap qcells ++ qcells (id, now)) → Keep (Own (.slice A l.length k)) (w2.alloc (.cells #[.int .u64 (id : Nat), .int .u64 (now : Nat)] 160)) w' →
          w'.heap[g]? = some (.cells #[.int .i64 most, .int .u64 pat, .slice A l.length k] 116 (0, 0)) := fun A' k' w' _ hk' => hk'.blk (blk_old HB.out _) (fun e => hne g e rfl)
      go_wp2_with (at_builtin; refine wpList_app rfl _ _ 114 rfl 160 _ 2 16 Try.underlying114 Try.info160 rfl (by decide) _ l.length _ hwn rfl _ 1 (qcells (id, now)) hso rfl rfl hone (by omega) h63 ?_; intro A' k' w' ho' hk' hn'; have hb' := hKB A' k' w' ho' hk'; have fr := blk_free hb' 2; have cc := (blk_cell hb' 2).trans rfl; have HB' := Lib.hid hb'; clear hb')
      go_ret
      have hzz : KeepZ (TQ B) w w' := ((KeepZ.of hkq).alloc _).own hwn hk' (fun i hi => ⟨hA i hi, .inr rfl⟩)
      refine ⟨rfl, ⟨A', k', ?_, ?_, hg, ?_, hm, by rw [List.length_append]; simp; omega, hp⟩, hzz.setCell HB'.out ⟨hg, .inl rfl⟩ _⟩
      · rw [List.length_append]; exact blk_set HB'.out 2 _
      · rw [List.length_append, flat_snoc]
        refine ownsRow_setCell_other ho' (fun e => ?_) _
        obtain ⟨cur, hcur⟩ := own_blk ho' e
        exact blk_ne HB'.out hcur (by decide) rfl
      · intro b hb
        rw [List.length_append] at hb
        rcases hn' b hb with e | e
        · exact hA b e
        · have := hkq.size
          simp at e
          omega
end Go.Proofs.Ytimdaioojnohmaa
