/-
  The document's queue walked: New, Has, Put, Done, Late.
-/
import Derived.Test.YtimdaioojnohmaaMQPart
namespace Go.Proofs.Ytimdaioojnohmaa
open Go.RowKit

theorem Try.info111 : (Try.prog.info? 111).map (fun i => (i.zero, i.size, i.bytes)) = some (some (.agg #[.int .u64 0, .int .u64 0]), 2, 16) := by kernel_rfl
/-- The document's queue at block g; all of it lies from block B on. -/
def RAt (B : Nat) (w : World) (g most pat : Nat) (l : QL) : Prop :=
  ∃ A k, w.heap[g]? = some (.cells #[.int .i64 most, .int .u64 pat, .slice A l.length k] 109 (0, 0)) ∧ w.ownsRow 0 111 2 (.slice A l.length k) l.length (l.flatMap qcells) ∧
    B ≤ g ∧ (∀ b, (Value.slice A l.length k).ownBlock = some b → B ≤ b) ∧ most ≤ 64 ∧ l.length ≤ 64 ∧ pat < 18446744073709551616
def TR (B : Nat) : Nat → Option TypeId → Prop := fun k s => B ≤ k ∧ (s = some 109 ∨ s = some 111)
theorem RAt.keep {B : Nat} {w w' : World} {g most pat : Nat} {l : QL} {T : Nat → Option TypeId → Prop} (h : RAt B w g most pat l) (hk : KeepZ T w w') (hT : ∀ k, ¬ T k (some 109) ∧ ¬ T k (some 111)) : RAt B w' g most pat l := by
  obtain ⟨A, k, hb, ho, r⟩ := h
  exact ⟨A, k, hk.blk hb (hT g).1, hk.row ho (fun i _ => (hT i).2), r⟩
theorem RAt.no {B : Nat} {w w' : World} {g most pat : Nat} {l : QL} (h : RAt B w g most pat l) (hk : Keep No w w') : RAt B w' g most pat l :=
  h.keep (T := fun _ _ => False) (KeepZ.of hk) (fun _ => ⟨id, id⟩)

theorem qhas_take (l : QL) (id i : Nat) (h : i < l.length) : qhas (l.take (i + 1)) id = (qhas (l.take i) id || l[i].1 == id) := by
  unfold qhas
  rw [List.take_succ_eq_append_getElem h, List.any_append]
  simp
theorem qhas_at (l : QL) (id i : Nat) (h : i < l.length) (he : l[i].1 = id) : qhas l id = true := by
  unfold qhas
  rw [List.any_eq_true]
  exact ⟨l[i], List.getElem_mem h, by simp [he]⟩

theorem rhas_any (B g most pat id : Nat) (l : QL) (w : World) (h : RAt B w g most pat l) : Calls Try.prog 55 #[.pointer (some ⟨g, 0, none⟩), .int .u64 id] w fun e w' => e = .returned (.bool (qhas l id)) ∧ w = w' := by
  obtain ⟨A, k, hb, ho, hg, hA, hm, hl, hp⟩ := h
  have c2 := (blk_cell hb 2).trans rfl
  have hP : P64 w (.slice A l.length k) l := Sl.of_own ho
  have H := Lib.hid hP
  clear hb ho hA hg hP hm hp
  go_enter Try.func55, Try.ntmps55
  go_wp2_with fail
  go_loopw [5] (fun iv wr => ∃ i, i ≤ l.length ∧ iv = .int .i64 (i : Nat) ∧ Hid (qhas (l.take i) id = false) ∧ w = wr) (fun iv _ => l.length - (intOf iv).toNat)
  case atStart => exact ⟨0, Nat.zero_le _, rfl, rfl, rfl⟩
  case round =>
    obtain ⟨i, hi, rfl, hno, rfl⟩ := hrel
    by_cases hlt : i < l.length
    · obtain ⟨b, o, c', hv, hc', hcell, -⟩ := H.out.at_ i hlt
      injection hv with hA _ hcc
      subst hA hcc
      have ht := qhas_take l id i hlt
      rw [hno.out, Bool.false_or] at ht
      by_cases he : l[i].1 = id
      · have he2 : ((l[i].1 : Int) == (id : Int)) = true := beq_iff_eq.2 (by omega)
        have HE := Lib.hid (qhas_at l id i hlt he)
        clear he ht
        generalize l[i] = x at *
        go_wp2_with fail
        go_ret
        exact ⟨ret_bool HE.out.symm, rfl⟩
      · have he2 : ((l[i].1 : Int) == (id : Int)) = false := beq_eq_false_iff_ne.2 (by omega)
        have HE : Hid (qhas (l.take (i + 1)) id = false) := by show _ = _; rw [ht]; simp [he]
        clear he ht
        generalize l[i] = x at *
        go_wp2_with fail
        exact ⟨⟨i + 1, by omega, by simp, HE, trivial⟩, by simp [intOf]; omega⟩
    · have := hno.out
      rw [List.take_of_length_le (by omega)] at this
      have HE := Lib.hid this
      clear this
      go_wp2_with fail
      go_ret
      exact ⟨ret_bool HE.out.symm, rfl⟩

theorem rput_any (B g most pat id now : Nat) (l : QL) (w : World) (h : RAt B w g most pat l) (_hBw : B ≤ w.heap.size) :
    Calls Try.prog 48 #[.pointer (some ⟨g, 0, none⟩), .int .u64 id, .int .u64 now] w fun e w' => e = .returned (.int .i64 ((qput most l id now).1 : Nat)) ∧ RAt B w' g most pat (qput most l id now).2 ∧ KeepZ (TR B) w w' := by
  have hh := rhas_any B g most pat id l w h
  have HQ := Lib.hid h
  unfold qput
  by_cases hhas : qhas l id = true
  · rw [if_pos hhas]
    rw [hhas] at hh
    have HH := Lib.hid hh
    clear hh hhas h
    go_enter Try.func48, Try.ntmps48
    go_wp2_with fail
    refine HH.out.mono ?_
    rintro e w1 ⟨rfl, rfl⟩
    go_wp2_with fail
    go_ret
    exact ⟨rfl, HQ.out, KeepZ.refl _ _⟩
  · rw [if_neg hhas]
    rw [Bool.not_eq_true] at hhas
    rw [hhas] at hh
    have HH := Lib.hid hh
    clear hh hhas
    by_cases hfull : most ≤ l.length
    · rw [if_pos hfull]
      obtain ⟨A, k, hb, ho, hg, hA, hm, hl, hp⟩ := h
      have c0 := (blk_cell hb 0).trans rfl
      have c2 := (blk_cell hb 2).trans rfl
      have hd : decide ((most : Int) ≤ (l.length : Int)) = true := by simp; omega
      clear hb ho hA hg hp
      go_enter Try.func48, Try.ntmps48
      go_wp2_with fail
      refine HH.out.mono ?_
      rintro e w1 ⟨rfl, rfl⟩
      go_wp2_with fail
      go_big_quiet (fail)
      go_wp2_with fail
      go_ret
      exact ⟨rfl, HQ.out.no ((Keep.refl _ _).drewN _), (KeepZ.refl _ _).drewN _⟩
    · rw [if_neg hfull]
      have hfl : l.length < most := by omega
      clear hfull
      obtain ⟨A, k, hb, ho, hg, hA, hm, hl, hp⟩ := h
      have c0 := (blk_cell hb 0).trans rfl
      have c2 := (blk_cell hb 2).trans rfl
      have hd : decide ((most : Int) ≤ (l.length : Int)) = false := by simp; omega
      have HB := Lib.hid hb
      clear hb
      go_enter Try.func48, Try.ntmps48
      go_wp2_with fail
      refine HH.out.mono ?_
      rintro e w1 ⟨rfl, rfl⟩
      go_wp2_with fail
      go_big_quiet (fail)
      have hbq : (w.drewN nq).heap[g]? = some (.cells #[.int .i64 most, .int .u64 pat, .slice A l.length k] 109 (0, 0)) := HB.out
      have hoq : (w.drewN nq).ownsRow 0 111 2 (.slice A l.length k) l.length (l.flatMap qcells) := ho
      have hkq : Keep No w (w.drewN nq) := (Keep.refl _ _).drewN nq
      clear HB c0 c2 ho
      generalize w.drewN nq = w2 at *
      have c2 := (blk_cell hbq 2).trans rfl
      have HB := Lib.hid hbq
      have hgs : g < w2.heap.size := lt_of_block hbq
      clear hbq
      have hwn : (w2.alloc (.cells #[.int .u64 (id : Nat), .int .u64 (now : Nat)] 111)).ownsRow 0 111 2 (.slice A l.length k) l.length (l.flatMap qcells) := hoq.alloc _
      have hso : Sl (w2.alloc (.cells #[.int .u64 (id : Nat), .int .u64 (now : Nat)] 111)) (.slice (some ⟨w2.heap.size, 0, none⟩) 1 1) 1 (qcells (id, now)) := Sl.lit _ _ 111 1
      have hone := qcells_one (id, now)
      have h63 : l.length + 1 ≤ maxLen := by simp only [maxLen]; omega
      have hne : ∀ b, (Value.slice A l.length k).ownBlock = some b → g ≠ b := fun b hb => by obtain ⟨cur, hcur⟩ := own_blk hoq hb; exact blk_ne HB.out hcur (by decide)
      have hKB : ∀ A' k' w', w'.ownsRow 0 111 2 (.slice A' (l.length + 1) k') (l.length + 1) (l.flatMap qcells ++ qcells (id, now)) → Keep (Own (.slice A l.length k)) (w2.alloc (.cells #[.int .u64 (id : Nat), .int .u64 (now : Nat)] 111)) w' →
          w'.heap[g]? = some (.cells #[.int .i64 most, .int .u64 pat, .slice A l.length k] 109 (0, 0)) := fun A' k' w' _ hk' => hk'.blk (blk_old HB.out _) (fun e => hne g e rfl)
      go_wp2_with (at_builtin; refine wpList_app rfl _ _ 107 rfl 111 _ 2 16 Try.underlying107 Try.info111 rfl (by decide) _ l.length _ hwn rfl _ 1 (qcells (id, now)) hso rfl rfl hone (by omega) h63 ?_; intro A' k' w' ho' hk' hn'; have hb' := hKB A' k' w' ho' hk'; have fr := blk_free hb' 2; have cc := (blk_cell hb' 2).trans rfl; have HB' := Lib.hid hb'; clear hb')
      go_ret
      have hzz : KeepZ (TR B) w w' := ((KeepZ.of hkq).alloc _).own hwn hk' (fun i hi => ⟨hA i hi, .inr rfl⟩)
      refine ⟨rfl, ⟨A', k', ?_, ?_, hg, ?_, hm, by rw [List.length_append]; simp; omega, hp⟩, hzz.setCell HB'.out ⟨hg, .inl rfl⟩ _⟩
      · rw [List.length_append]; exact blk_set HB'.out 2 _
      · rw [List.length_append, flat_snoc]
        refine ownsRow_setCell_other ho' (fun e => ?_) _
        obtain ⟨cur, hcur⟩ := own_blk ho' e
        exact blk_ne HB'.out hcur (by decide) rfl
      · intro b hb
        rw [List.length_append] at hb
        rcases hn' b hb with e | e
        · exact hA b e
        · have := hkq.size
          simp at e
          omega

theorem rdone_any (B g most pat id : Nat) (l : QL) (w : World) (h : RAt B w g most pat l) (hBw : B ≤ w.heap.size) :
    Calls Try.prog 50 #[.pointer (some ⟨g, 0, none⟩), .int .u64 id] w fun e w' => e = .returned (.int .i64 ((qdone l id).1 : Nat)) ∧ RAt B w' g most pat (qdone l id).2 ∧ KeepZ (TR B) w w' := by
  have hh := rhas_any B g most pat id l w h
  have HQ := Lib.hid h
  unfold qdone
  by_cases hhas : qhas l id = true
  · rw [if_pos hhas]
    rw [hhas] at hh
    have HH := Lib.hid hh
    clear hh hhas
    obtain ⟨A, k, hb, ho, hg, hA, hm, hl, hp⟩ := h
    have hP : P64 w (.slice A l.length k) l := Sl.of_own ho
    have H := Lib.hid hP
    have HB := Lib.hid hb
    clear hP hb ho
    go_enter Try.func50, Try.ntmps50
    go_wp2_with fail
    refine HH.out.mono ?_
    rintro e w1 ⟨rfl, rfl⟩
    go_wp2_with fail
    go_loopw [5, 6] (fun nv iv wr => ∃ i N A2 k2, i ≤ l.length ∧ iv = .int .i64 (i : Nat) ∧ Hid (N = (l.take i).filter (fun x => !(x.1 == id))) ∧ nv = .slice A2 N.length k2 ∧
      wr.ownsRow 0 111 2 (.slice A2 N.length k2) N.length (N.flatMap qcells) ∧ (∀ b, (Value.slice A2 N.length k2).ownBlock = some b → w.heap.size ≤ b) ∧ Keep No w wr ∧ N.length ≤ i) (fun _ iv _ => l.length - (intOf iv).toNat)
    case atStart => exact ⟨0, [], none, 0, Nat.zero_le _, rfl, by show _ = _; simp, rfl, World.ownsRow_nil _ _ _ _, fun b hb => by simp [Value.ownBlock] at hb, Keep.refl _ _, by simp⟩
    case round =>
      obtain ⟨i, N, A2, k2, hi, rfl, hN, rfl, ho2, hA2, hk, hl2⟩ := hrel
      have hbr := hk.blk HB.out (fun h => h)
      have c2 := (blk_cell hbr 2).trans rfl
      have HBR := Lib.hid hbr
      clear hbr
      by_cases hlt : i < l.length
      · obtain ⟨b, o, c', hv, hc', hc1, hc2⟩ := P64.at_ (Sl.keep H.out hk (fun _ _ h => h)) i hlt
        injection hv with hAA _ hcc
        subst hAA hcc
        have tN := filter_take (fun x : Nat × Nat => !(x.1 == id)) l i hlt
        rw [← hN.out] at tN
        by_cases he : l[i].1 = id
        · rw [if_neg (by simp [he]), List.append_nil] at tN
          have HTN := Lib.hid tN
          have he2 : ((l[i].1 : Int) == (id : Int)) = true := beq_iff_eq.2 (by omega)
          clear tN he
          generalize l[i] = x at *
          go_wp2_with fail
          exact ⟨⟨i + 1, N, A2, k2, by omega, by simp, HTN.out.symm, rfl, ho2, hA2, hk, by omega⟩, by simp [intOf]; omega⟩
        · rw [if_pos (by simp [he])] at tN
          have HTN := Lib.hid tN
          have he2 : ((l[i].1 : Int) == (id : Int)) = false := beq_eq_false_iff_ne.2 (by omega)
          clear tN he
          generalize l[i] = x at *
          have hwn : (wr.alloc (.cells #[.int .u64 (x.1 : Nat), .int .u64 (x.2 : Nat)] 111)).ownsRow 0 111 2 (.slice A2 N.length k2) N.length (N.flatMap qcells) := ho2.alloc _
          have hso : Sl (wr.alloc (.cells #[.int .u64 (x.1 : Nat), .int .u64 (x.2 : Nat)] 111)) (.slice (some ⟨wr.heap.size, 0, none⟩) 1 1) 1 (qcells x) := Sl.lit _ _ 111 1
          have hone := qcells_one x
          have h63 : N.length + 1 ≤ maxLen := by simp only [maxLen]; omega
          have kn : Keep No w (wr.alloc (.cells #[.int .u64 (x.1 : Nat), .int .u64 (x.2 : Nat)] 111)) := hk.alloc _
          go_wp2_with (at_builtin; refine wpList_app rfl _ _ 107 rfl 111 _ 2 16 Try.underlying107 Try.info111 rfl (by decide) _ N.length _ hwn rfl _ 1 (qcells x) hso rfl rfl hone (by omega) h63 ?_; intro A' k' w' ho' hk' hn')
          refine ⟨⟨i + 1, N ++ [x], A', k', by omega, by simp, HTN.out.symm, by rw [List.length_append]; rfl, ?_, ?_, kn.fresh hk' hA2, by rw [List.length_append]; simp; omega⟩, by simp [intOf]; omega⟩
          · rw [List.length_append, flat_snoc]; exact ho'
          · intro b hb
            rw [List.length_append] at hb
            rcases hn' b hb with e | e
            · exact hA2 b e
            · have := kn.size; omega
      · obtain rfl : i = l.length := by omega
        have fr2 := blk_free HBR.out 2
        go_wp2_with fail
        go_ret
        have hN' := hN.out
        rw [List.take_length] at hN'
        rw [← hN']
        have hz : KeepZ (TR B) w wr := KeepZ.of hk
        refine ⟨rfl, ⟨A2, k2, blk_set HBR.out 2 _, ?_, hg, fun b hb => ?_, hm, by omega, hp⟩, hz.setCell HBR.out ⟨hg, .inl rfl⟩ _⟩
        · refine ownsRow_setCell_other ho2 (fun e => ?_) _
          obtain ⟨cur, hcur⟩ := own_blk ho2 e
          exact blk_ne HBR.out hcur (by decide) rfl
        · have := hA2 b hb; omega
  · rw [if_neg hhas]
    rw [Bool.not_eq_true] at hhas
    rw [hhas] at hh
    have HH := Lib.hid hh
    clear hh hhas h
    go_enter Try.func50, Try.ntmps50
    go_wp2_with fail
    refine HH.out.mono ?_
    rintro e w1 ⟨rfl, rfl⟩
    go_wp2_with fail
    go_ret
    exact ⟨rfl, HQ.out, KeepZ.refl _ _⟩
theorem rnew_any (most pat : Nat) (w : World) (h1 : 0 < most) (h2 : most ≤ 64) (h3 : 0 < pat) (h4 : pat < 18446744073709551616) : Calls Try.prog 47 #[.int .i64 most, .int .u64 pat] w fun e w' =>
    e = .returned (.tuple #[.pointer (some ⟨w.heap.size, 0, none⟩), .bool true]) ∧ RAt w.heap.size w' w.heap.size most pat [] ∧ w' = w.alloc (.cells #[.int .i64 most, .int .u64 pat, .slice none 0 0] 109) := by
  have hz : decide ((0 : Int) < (pat : Int)) = true := by simp; omega
  have a1 : decide ((1 : Int) ≤ (most : Int)) = true := by simp; omega
  have a2 : decide ((most : Int) ≤ (64 : Int)) = true := by simp; omega
  have H4 := Lib.hid h4
  clear h4
  go_enter Try.func47, Try.ntmps47
  go_wp2_with fail
  go_ret2
  exact ⟨rfl, ⟨none, 0, blk_at _ _ rfl, World.ownsRow_nil _ _ _ _, Nat.le_refl _, fun b hb => by simp [Value.ownBlock] at hb, h2, by simp, H4.out⟩, rfl⟩
theorem rnew_bad (most : Int) (pat : Nat) (w : World) (h : most < 1 ∨ 64 < most ∨ pat = 0) : Calls Try.prog 47 #[.int .i64 most, .int .u64 pat] w fun e w' => ∃ p, e = .returned (.tuple #[p, .bool false]) ∧ Keep No w w' := by
  by_cases a1 : most < 1
  · have hd : decide ((1 : Int) ≤ most) = false := by simp; omega
    go_enter Try.func47, Try.ntmps47
    go_wp2_with fail
    go_ret2
    first | exact ⟨⟨_, rfl⟩, (Keep.refl _ _).alloc _⟩ | exact ⟨_, rfl, (Keep.refl _ _).alloc _⟩
  have hd : decide ((1 : Int) ≤ most) = true := by simp; omega
  by_cases a2 : 64 < most
  · have hd2 : decide (most ≤ (64 : Int)) = false := by simp; omega
    go_enter Try.func47, Try.ntmps47
    go_wp2_with fail
    go_ret2
    first | exact ⟨⟨_, rfl⟩, (Keep.refl _ _).alloc _⟩ | exact ⟨_, rfl, (Keep.refl _ _).alloc _⟩
  · have hd2 : decide (most ≤ (64 : Int)) = true := by simp; omega
    obtain rfl : pat = 0 := by omega
    go_enter Try.func47, Try.ntmps47
    go_wp2_with fail
    go_ret2
    first | exact ⟨⟨_, rfl⟩, (Keep.refl _ _).alloc _⟩ | exact ⟨_, rfl, (Keep.refl _ _).alloc _⟩
end Go.Proofs.Ytimdaioojnohmaa
