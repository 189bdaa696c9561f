/-
  The law QueueParts walked, with queue.Part at rows of numbers.
-/
import Derived.Test.YtimdaioojnohmaaQLives
import Derived.Test.YtimdaioojnohmaaOpen
namespace Go.Proofs.Ytimdaioojnohmaa
open Go.RowKit

theorem Rd.at_ {w : World} {v : Value} {l : List Nat} (h : Rd w v l.length (l.map u64v)) (i : Nat) (hi : i < l.length) : ∃ b o c, v = .slice (some ⟨b, o, none⟩) l.length c ∧ l.length ≤ c ∧ w.cell? ⟨b, o + i, none⟩ = some (.int .u64 (l[i] : Nat)) := by
  obtain ⟨A, c, rfl, hc, hx⟩ := h
  obtain ⟨b, o, rfl, hcell⟩ := hx i (.int .u64 (l[i] : Nat)) (by simp [hi, u64v])
  exact ⟨b, o, c, rfl, hc, hcell⟩
theorem below_any (x n g : Nat) (w : World) (h : w.cell? ⟨g, 0, none⟩ = some (.int .u64 (n : Nat))) : Calls Try.prog 46 #[.int .u64 x, .pointer (some ⟨g, 0, none⟩)] w fun e w' => e = .returned (.bool (decide (x < n))) ∧ w = w' := by
  by_cases he : x < n
  · have h1 : decide ((x : Int) < (n : Int)) = true := by simp; omega
    have HD := Lib.hid (decide_eq_true he)
    clear he
    go_enter Try.func46, Try.ntmps46
    go_wp2_with fail
    go_ret
    exact ⟨by first | rfl | exact ret_bool (h1.trans HD.out.symm), rfl⟩
  · have h1 : decide ((x : Int) < (n : Int)) = false := by simp; omega
    have HD := Lib.hid (decide_eq_false he)
    clear he
    go_enter Try.func46, Try.ntmps46
    go_wp2_with fail
    go_ret
    exact ⟨by first | rfl | exact ret_bool (h1.trans HD.out.symm), rfl⟩

theorem part_below (n g : Nat) (v : Value) (l : List Nat) (w : World) (hg : w.cell? ⟨g, 0, none⟩ = some (.int .u64 (n : Nat))) (h : Rd w v l.length (l.map u64v)) (hl : l.length ≤ 200) :
    Calls Try.prog 45 #[v, .func (.func 46) #[] #[.pointer (some ⟨g, 0, none⟩)]] w fun e w' => ∃ y m, e = .returned (.tuple #[y, m]) ∧ New64 w w' y (l.filter (fun x => decide (x < n))) ∧ New64 w w' m (l.filter (fun x => !decide (x < n))) ∧ Keep No w w' := by
  obtain ⟨A, c, rfl, hlc, -⟩ := id h
  have H := Lib.hid h
  have HG := Lib.hid hg
  clear h hg
  go_enter Try.func45, Try.ntmps45
  go_wp2_with fail
  go_loopw [4, 5, 10] (fun yv nv iv wr => ∃ i Y N A1 k1 A2 k2, i ≤ l.length ∧ iv = .int .i64 (i : Nat) ∧ Hid (Y = (l.take i).filter (fun x => decide (x < n))) ∧ Hid (N = (l.take i).filter (fun x => !decide (x < n))) ∧ yv = .slice A1 Y.length k1 ∧ nv = .slice A2 N.length k2 ∧
    wr.ownsRow 0 29 1 (.slice A1 Y.length k1) Y.length (Y.map u64v) ∧ wr.ownsRow 0 29 1 (.slice A2 N.length k2) N.length (N.map u64v) ∧
    (∀ b, (Value.slice A1 Y.length k1).ownBlock = some b → w.heap.size ≤ b) ∧ (∀ b, (Value.slice A2 N.length k2).ownBlock = some b → w.heap.size ≤ b) ∧
    (∀ b, (Value.slice A1 Y.length k1).ownBlock = some b → ¬ (Value.slice A2 N.length k2).ownBlock = some b) ∧ Keep No w wr ∧ Y.length ≤ i ∧ N.length ≤ i) (fun _ _ iv _ => l.length - (intOf iv).toNat)
  case atStart => exact ⟨0, [], [], none, 0, none, 0, Nat.zero_le _, rfl, by show _ = _; simp, by show _ = _; simp, rfl, rfl, World.ownsRow_nil _ _ _ _, World.ownsRow_nil _ _ _ _, fun b hb => by simp [Value.ownBlock] at hb, fun b hb => by simp [Value.ownBlock] at hb, fun b hb => by simp [Value.ownBlock] at hb, Keep.refl _ _, by simp, by simp⟩
  case round =>
    obtain ⟨i, Y, N, A1, k1, A2, k2, hi, rfl, hY, hN, rfl, rfl, ho1, ho2, hA1, hA2, hne, hk, hl1, hl2⟩ := hrel
    by_cases hlt : i < l.length
    · obtain ⟨b, o, c', hv, hc', hc1⟩ := (H.out.keep hk).at_ i hlt
      injection hv with hAA _ hcc
      subst hAA hcc
      have hcall := below_any l[i] n g wr (hk.cellSome HG.out (fun h => h))
      have tY := filter_take (fun x => decide (x < n)) l i hlt
      have tN := filter_take (fun x => !decide (x < n)) l i hlt
      rw [← hY.out] at tY
      rw [← hN.out] at tN
      have HC := Lib.hid hcall
      clear hcall
      cases hp : decide (l[i] < n)
      · rw [hp] at HC tY tN
        simp only [Bool.false_eq_true, if_false, List.append_nil, Bool.not_false, if_true] at tY tN
        have HTY := Lib.hid tY
        have HTN := Lib.hid tN
        clear tY tN hp
        generalize l[i] = x at *
        go_wp2_with fail
        refine HC.out.mono ?_
        rintro e w2 ⟨rfl, rfl⟩
        have hwn : (wr.alloc (.cells #[.int .u64 (x : Nat)] 29)).ownsRow 0 29 1 (.slice A2 N.length k2) N.length (N.map u64v) := ho2.alloc _
        have hso : Sl (wr.alloc (.cells #[.int .u64 (x : Nat)] 29)) (.slice (some ⟨wr.heap.size, 0, none⟩) 1 1) 1 ([x].map u64v) := Sl.lit _ _ 29 1
        have hone := u64v_one [x]
        have h63 : N.length + 1 ≤ maxLen := by simp only [maxLen]; omega
        have kn : Keep No w (wr.alloc (.cells #[.int .u64 (x : Nat)] 29)) := hk.alloc _
        go_wp2_with (at_builtin; refine wpList_app rfl _ _ 41 rfl 29 _ 1 8 Try.underlying41 Try.info29 rfl (by decide) _ N.length _ hwn rfl _ 1 ([x].map u64v) hso rfl rfl hone (by omega) h63 ?_; intro A' k' w' ho' hk' hn')
        have hsz : wr.heap.size ≤ (wr.alloc (.cells #[.int .u64 (x : Nat)] 29)).heap.size := by rw [World.size_alloc]; omega
        have hY1 : ∀ b, (Value.slice A1 Y.length k1).ownBlock = some b → b < wr.heap.size := fun b hb => own_lt ho1 hb
        refine ⟨⟨i + 1, Y, N ++ [x], A1, k1, A', k', by omega, by simp, HTY.out.symm, HTN.out.symm, rfl, by rw [List.length_append]; rfl, ?_, ?_, hA1, ?_, ?_, kn.fresh hk' hA2, by omega, by rw [List.length_append]; simp; omega⟩, by simp [intOf]; omega⟩
        · exact own_keep (ho1.alloc (.cells #[.int .u64 (x : Nat)] 29)) hk' (fun b hb e => hne b hb e)
        · rw [List.length_append, List.map_append]; exact ho'
        · intro b hb
          rw [List.length_append] at hb
          rcases hn' b hb with e | e
          · exact hA2 b e
          · have := kn.size; omega
        · intro b hb e
          rw [List.length_append] at e
          rcases hn' b e with e | e
          · exact hne b hb e
          · have := hY1 b hb; omega
      · rw [hp] at HC tY tN
        simp only [Bool.false_eq_true, if_false, List.append_nil, Bool.not_true, if_true] at tY tN
        have HTY := Lib.hid tY
        have HTN := Lib.hid tN
        clear tY tN hp
        generalize l[i] = x at *
        go_wp2_with fail
        refine HC.out.mono ?_
        rintro e w2 ⟨rfl, rfl⟩
        have hwn : (wr.alloc (.cells #[.int .u64 (x : Nat)] 29)).ownsRow 0 29 1 (.slice A1 Y.length k1) Y.length (Y.map u64v) := ho1.alloc _
        have hso : Sl (wr.alloc (.cells #[.int .u64 (x : Nat)] 29)) (.slice (some ⟨wr.heap.size, 0, none⟩) 1 1) 1 ([x].map u64v) := Sl.lit _ _ 29 1
        have hone := u64v_one [x]
        have h63 : Y.length + 1 ≤ maxLen := by simp only [maxLen]; omega
        have kn : Keep No w (wr.alloc (.cells #[.int .u64 (x : Nat)] 29)) := hk.alloc _
        go_wp2_with (at_builtin; refine wpList_app rfl _ _ 41 rfl 29 _ 1 8 Try.underlying41 Try.info29 rfl (by decide) _ Y.length _ hwn rfl _ 1 ([x].map u64v) hso rfl rfl hone (by omega) h63 ?_; intro A' k' w' ho' hk' hn')
        have hsz : wr.heap.size ≤ (wr.alloc (.cells #[.int .u64 (x : Nat)] 29)).heap.size := by rw [World.size_alloc]; omega
        have hN1 : ∀ b, (Value.slice A2 N.length k2).ownBlock = some b → b < wr.heap.size := fun b hb => own_lt ho2 hb
        refine ⟨⟨i + 1, Y ++ [x], N, A', k', A2, k2, by omega, by simp, HTY.out.symm, HTN.out.symm, by rw [List.length_append]; rfl, rfl, ?_, ?_, ?_, hA2, ?_, kn.fresh hk' hA1, by rw [List.length_append]; simp; omega, by omega⟩, by simp [intOf]; omega⟩
        · rw [List.length_append, List.map_append]; exact ho'
        · exact own_keep (ho2.alloc (.cells #[.int .u64 (x : Nat)] 29)) hk' (fun b hb e => hne b e hb)
        · intro b hb
          rw [List.length_append] at hb
          rcases hn' b hb with e | e
          · exact hA1 b e
          · have := kn.size; omega
        · intro b hb e
          rw [List.length_append] at hb
          rcases hn' b hb with h | h
          · exact hne b h e
          · have := hN1 b e; omega
    · obtain rfl : i = l.length := by omega
      go_wp2_with fail
      go_ret2
      have hY' := hY.out
      have hN' := hN.out
      rw [List.take_length] at hY' hN'
      rw [← hY', ← hN']
      exact ⟨_, _, rfl, ⟨A1, k1, rfl, ho1, hA1⟩, ⟨A2, k2, rfl, ho2, hA2⟩, hk⟩

theorem filter_at {α : Type} (p : α → Bool) (l : List α) (i : Nat) (h : i < l.length) (hp : p l[i] = true) : ∃ hj : ((l.take i).filter p).length < (l.filter p).length, (l.filter p)[((l.take i).filter p).length] = l[i] := by
  have hs : l = l.take i ++ l[i] :: l.drop (i + 1) := by rw [List.getElem_cons_drop, List.take_append_drop]
  have hf : l.filter p = (l.take i).filter p ++ l[i] :: (l.drop (i + 1)).filter p := by
    conv => lhs; rw [hs]
    rw [List.filter_append, List.filter_cons, if_pos hp]
  have hj : ((l.take i).filter p).length < (l.filter p).length := by rw [hf, List.length_append]; simp
  refine ⟨hj, ?_⟩
  have : (l.filter p)[((l.take i).filter p).length]? = some l[i] := by rw [hf, List.getElem?_append_right (Nat.le_refl _)]; simp
  rw [List.getElem?_eq_getElem hj] at this
  exact Option.some.inj this


theorem queueParts_any (v : Value) (l : List Nat) (n : Nat) (w : World) (h : Rd w v l.length (l.map u64v)) (_hb : ∀ a ∈ l, a < 18446744073709551616) : Calls Try.prog 9 #[v, .int .u64 n] w fun e w' => e = .returned (.bool true) ∧ Keep No w w' := by
  clear _hb
  have k0 : Keep No w (w.alloc (.cells #[.int .u64 (n : Nat)] 29)) := (Keep.refl _ _).alloc _
  by_cases h2 : 200 < l.length
  · obtain ⟨A, c, rfl, hlc, -⟩ := h
    have hd : decide ((200 : Int) < (l.length : Int)) = true := by simp; omega
    have HL := Lib.hid (lives38_any (w.alloc (.cells #[.int .u64 (n : Nat)] 29)))
    go_enter Try.func9, Try.ntmps9
    go_wp2_with fail
    refine HL.out.mono ?_
    rintro e w1 ⟨rfl, k1⟩
    go_wp2_with fail
    go_ret
    exact ⟨rfl, k0.trans k1⟩
  · have g0 := (blk_cell (blk_at w (.cells #[.int .u64 (n : Nat)] 29) rfl) 0).trans rfl
    have hp := part_below n w.heap.size v l _ g0 (h.keep k0) (by omega)
    have HP := Lib.hid hp
    obtain ⟨A, c, rfl, hlc, -⟩ := id h
    have H := Lib.hid h
    have HG := Lib.hid g0
    clear hp h
    go_enter Try.func9, Try.ntmps9
    go_wp2_with fail
    refine HP.out.mono ?_
    rintro e w1 ⟨y, m, rfl, hy, hm, k1⟩
    have hy := hy.n64
    have hm := hm.n64
    obtain ⟨Ay, cy, rfl, -⟩ := Sl.shape hy
    obtain ⟨Am, cm, rfl, -⟩ := Sl.shape hm
    have HY := Lib.hid hy
    have HM := Lib.hid hm
    clear hy hm
    have hly : (l.filter (fun x => decide (x < n))).length ≤ l.length := List.length_filter_le _ _
    have hlm : (l.filter (fun x => !decide (x < n))).length ≤ l.length := List.length_filter_le _ _
    obtain ⟨Yl, hYl⟩ : ∃ Yl, Yl = l.filter (fun x => decide (x < n)) := ⟨_, rfl⟩
    obtain ⟨Nl, hNl⟩ : ∃ Nl, Nl = l.filter (fun x => !decide (x < n)) := ⟨_, rfl⟩
    rw [← hYl] at HY hly ⊢
    rw [← hNl] at HM hlm ⊢
    have HYl := Lib.hid hYl
    have HNl := Lib.hid hNl
    clear hYl hNl
    go_wp2_with fail
    go_loopw [7, 8, 23] (fun yv nv iv wr => ∃ i a b, i ≤ l.length ∧ iv = .int .i64 (i : Nat) ∧ yv = .int .i64 (a : Nat) ∧ nv = .int .i64 (b : Nat) ∧ Hid (a = ((l.take i).filter (fun x => decide (x < n))).length) ∧ Hid (b = ((l.take i).filter (fun x => !decide (x < n))).length) ∧ a ≤ i ∧ b ≤ i ∧ w1 = wr) (fun _ _ iv _ => l.length - (intOf iv).toNat)
    case atStart => exact ⟨0, 0, 0, Nat.zero_le _, rfl, rfl, rfl, by show _ = _; simp, by show _ = _; simp, Nat.le_refl _, Nat.le_refl _, rfl⟩
    case round =>
      obtain ⟨i, a, b, hi, rfl, rfl, rfl, ha, hb, hai, hbi, rfl⟩ := hrel
      have c3 : w1.cell? ⟨w.heap.size, 0, none⟩ = some (.int .u64 (n : Nat)) := k1.cellSome HG.out (fun h => h)
      by_cases hlt : i < l.length
      · obtain ⟨bb, o, c', hv, hc', hc1⟩ := ((H.out.keep k0).keep k1).at_ i hlt
        injection hv with hAA _ hcc
        subst hAA hcc
        have tY := filter_take (fun x => decide (x < n)) l i hlt
        have tN := filter_take (fun x => !decide (x < n)) l i hlt
        by_cases hp : l[i] < n
        · obtain ⟨hj, hx⟩ := filter_at (fun x => decide (x < n)) l i hlt (decide_eq_true hp)
          rw [if_pos (decide_eq_true hp)] at tY
          rw [if_neg (by simp; omega)] at tN
          simp only [← ha.out, ← HYl.out] at hj hx
          obtain ⟨b2, o2, c2, hv2, hc2, hcell⟩ := HY.out.at_ a hj
          injection hv2 with hAA _ hcc
          subst hAA hcc
          rw [hx] at hcell
          have hta : a + 1 = ((l.take (i + 1)).filter (fun x => decide (x < n))).length := by rw [tY, List.length_append, ← ha.out]; rfl
          have htb : b = ((l.take (i + 1)).filter (fun x => !decide (x < n))).length := by rw [tN, List.append_nil, ← hb.out]
          have HTA := Lib.hid hta
          have HTB := Lib.hid htb
          have hd : decide ((l[i] : Int) < (n : Int)) = true := by simp; omega
          have hd2 : decide ((Yl.length : Int) ≤ (a : Int)) = false := by simp; omega
          clear tY tN hta htb hx
          generalize l[i] = x at *
          go_wp2_with fail
          exact ⟨⟨i + 1, a + 1, b, by omega, by simp, by simp, rfl, HTA, HTB, by omega, by omega, trivial⟩, by simp [intOf]; omega⟩
        · obtain ⟨hj, hx⟩ := filter_at (fun x => !decide (x < n)) l i hlt (by simp; omega)
          rw [if_neg (by simp; omega)] at tY
          rw [if_pos (by simp; omega)] at tN
          simp only [← hb.out, ← HNl.out] at hj hx
          obtain ⟨b2, o2, c2, hv2, hc2, hcell⟩ := HM.out.at_ b hj
          injection hv2 with hAA _ hcc
          subst hAA hcc
          rw [hx] at hcell
          have hta : a = ((l.take (i + 1)).filter (fun x => decide (x < n))).length := by rw [tY, List.append_nil, ← ha.out]
          have htb : b + 1 = ((l.take (i + 1)).filter (fun x => !decide (x < n))).length := by rw [tN, List.length_append, ← hb.out]; rfl
          have HTA := Lib.hid hta
          have HTB := Lib.hid htb
          have hd : decide ((l[i] : Int) < (n : Int)) = false := by simp; omega
          have hd2 : decide ((Nl.length : Int) ≤ (b : Int)) = false := by simp; omega
          clear tY tN hta htb hx
          generalize l[i] = x at *
          go_wp2_with fail
          exact ⟨⟨i + 1, a, b + 1, by omega, by simp, rfl, by simp, HTA, HTB, by omega, by omega, trivial⟩, by simp [intOf]; omega⟩
      · obtain rfl : i = l.length := by omega
        have ha' := ha.out
        have hb' := hb.out
        rw [List.take_length, ← HYl.out] at ha'
        rw [List.take_length, ← HNl.out] at hb'
        have HL := Lib.hid (lives38_any w1)
        have e1 : ((a : Int) == (Yl.length : Int)) = true := beq_iff_eq.2 (by omega)
        have e2 : ((b : Int) == (Nl.length : Int)) = true := beq_iff_eq.2 (by omega)
        clear ha' hb'
        go_wp2_with fail
        refine HL.out.mono ?_
        rintro e w2 ⟨rfl, k2⟩
        go_wp2_with fail
        go_ret
        exact ⟨rfl, (k0.trans k1).trans k2⟩
end Go.Proofs.Ytimdaioojnohmaa
