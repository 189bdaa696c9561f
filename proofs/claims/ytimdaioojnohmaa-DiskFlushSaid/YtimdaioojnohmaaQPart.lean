/-
  queue.Part at rows of pairs walked, the closure by its contract.
-/
import Derived.Test.YtimdaioojnohmaaQueue
namespace Go.Proofs.Ytimdaioojnohmaa
open Go.RowKit

/-- A row of pairs that is nobody else's, new since w0. -/
def NewP (w0 w : World) (v : Value) (l : QL) : Prop := ∃ A k, v = .slice A l.length k ∧ w.ownsRow 0 160 2 (.slice A l.length k) l.length (l.flatMap qcells) ∧ ∀ b, (Value.slice A l.length k).ownBlock = some b → w0.heap.size ≤ b
theorem NewP.keep {w0 w w' : World} {v : Value} {l : QL} (h : NewP w0 w v l) (hk : Keep No w w') : NewP w0 w' v l := by
  obtain ⟨A, k, rfl, ho, hb⟩ := h
  exact ⟨A, k, rfl, own_keep ho hk (fun _ _ h => h), hb⟩
theorem NewP.p64 {w0 w : World} {v : Value} {l : QL} (h : NewP w0 w v l) : P64 w v l := by
  obtain ⟨A, k, rfl, ho, -⟩ := h
  exact Sl.of_own ho

theorem filter_take {α : Type} (p : α → Bool) (l : List α) (i : Nat) (h : i < l.length) : (l.take (i + 1)).filter p = (l.take i).filter p ++ if p l[i] then [l[i]] else [] := by
  rw [List.take_succ_eq_append_getElem h, List.filter_append]
  cases hp : p l[i] <;> simp [hp]

theorem part_done (c0 : Value) (p : Nat × Nat → Bool) (v : Value) (l : QL) (w : World) (Env : World → Prop) (hEnv : ∀ w w', Env w → Keep No w w' → Env w') (hE : Env w) (h : P64 w v l) (hl : l.length ≤ 1048576)
    (hcl : ∀ (x : Nat × Nat) (w' : World), x ∈ l → Env w' → Calls Try.prog 84 #[.agg #[.int .u64 x.1, .int .u64 x.2], c0] w' fun e w'' => e = .returned (.bool (p x)) ∧ Keep No w' w'') :
    Calls Try.prog 81 #[v, .func (.func 84) #[] #[c0]] w fun e w' => ∃ y n, e = .returned (.tuple #[y, n]) ∧ NewP w w' y (l.filter p) ∧ NewP w w' n (l.filter (fun x => !p x)) ∧ Keep No w w' := by
  obtain ⟨A, c, rfl, -⟩ := Sl.shape h
  have H := Lib.hid h
  have HE := Lib.hid hE
  have HCL := Lib.hid hcl
  have HEV := Lib.hid hEnv
  clear h hE hcl hEnv
  go_enter Try.func81, Try.ntmps81
  go_wp2_with fail
  go_loopw [4, 5, 10] (fun yv nv iv wr => ∃ i Y N A1 k1 A2 k2, i ≤ l.length ∧ iv = .int .i64 (i : Nat) ∧ Hid (Y = (l.take i).filter p) ∧ Hid (N = (l.take i).filter (fun x => !p x)) ∧ yv = .slice A1 Y.length k1 ∧ nv = .slice A2 N.length k2 ∧
    wr.ownsRow 0 160 2 (.slice A1 Y.length k1) Y.length (Y.flatMap qcells) ∧ wr.ownsRow 0 160 2 (.slice A2 N.length k2) N.length (N.flatMap qcells) ∧
    (∀ b, (Value.slice A1 Y.length k1).ownBlock = some b → w.heap.size ≤ b) ∧ (∀ b, (Value.slice A2 N.length k2).ownBlock = some b → w.heap.size ≤ b) ∧
    (∀ b, (Value.slice A1 Y.length k1).ownBlock = some b → ¬ (Value.slice A2 N.length k2).ownBlock = some b) ∧ Keep No w wr ∧ Y.length ≤ i ∧ N.length ≤ i) (fun _ _ iv _ => l.length - (intOf iv).toNat)
  case atStart => exact ⟨0, [], [], none, 0, none, 0, Nat.zero_le _, rfl, by show _ = _; simp, by show _ = _; simp, rfl, rfl, World.ownsRow_nil _ _ _ _, World.ownsRow_nil _ _ _ _, fun b hb => by simp [Value.ownBlock] at hb, fun b hb => by simp [Value.ownBlock] at hb, fun b hb => by simp [Value.ownBlock] at hb, Keep.refl _ _, by simp, by simp⟩
  case round =>
    obtain ⟨i, Y, N, A1, k1, A2, k2, hi, rfl, hY, hN, rfl, rfl, ho1, ho2, hA1, hA2, hne, hk, hl1, hl2⟩ := hrel
    by_cases hlt : i < l.length
    · obtain ⟨b, o, c', hv, hc', hc1, hc2⟩ := P64.at_ (Sl.keep H.out hk (fun _ _ h => h)) i hlt
      injection hv with hAA _ hcc
      subst hAA hcc
      have hcall := HCL.out l[i] (wr.alloc (.cells #[.int .u64 (l[i].1 : Nat), .int .u64 (l[i].2 : Nat)] 160)) (List.getElem_mem hlt) (HEV.out _ _ (HEV.out _ _ HE.out hk) ((Keep.refl No wr).alloc _))
      have tY := filter_take p l i hlt
      have tN := filter_take (fun x => !p x) l i hlt
      rw [← hY.out] at tY
      rw [← hN.out] at tN
      have HC := Lib.hid hcall
      clear hcall
      cases hp : p l[i]
      · rw [hp] at HC tY tN
        simp only [Bool.false_eq_true, if_false, List.append_nil, Bool.not_false, if_true] at tY tN
        have HTY := Lib.hid tY
        have HTN := Lib.hid tN
        clear tY tN hp
        generalize l[i] = x at *
        go_wp2_with fail
        refine HC.out.mono ?_
        rintro e w2 ⟨rfl, hk2⟩
        have hkk : Keep No wr w2 := ((Keep.refl No wr).alloc _).trans hk2
        have hbx := hk2.blk (blk_at wr (.cells #[.int .u64 (x.1 : Nat), .int .u64 (x.2 : Nat)] 160) rfl) (fun h => h)
        have x0 := (blk_cell hbx 0).trans rfl
        have x1 := (blk_cell hbx 1).trans rfl
        clear hbx
        have hwn : (w2.alloc (.cells #[.int .u64 (x.1 : Nat), .int .u64 (x.2 : Nat)] 160)).ownsRow 0 160 2 (.slice A2 N.length k2) N.length (N.flatMap qcells) := (own_keep ho2 hkk (fun _ _ h => h)).alloc _
        have hso : Sl (w2.alloc (.cells #[.int .u64 (x.1 : Nat), .int .u64 (x.2 : Nat)] 160)) (.slice (some ⟨w2.heap.size, 0, none⟩) 1 1) 1 (qcells x) := Sl.lit _ _ 160 1
        have hone := qcells_one x
        have h63 : N.length + 1 ≤ maxLen := by simp only [maxLen]; omega
        have kn : Keep No w (w2.alloc (.cells #[.int .u64 (x.1 : Nat), .int .u64 (x.2 : Nat)] 160)) := (hk.trans hkk).alloc _
        go_wp2_with (at_builtin; refine wpList_app rfl _ _ 114 rfl 160 _ 2 16 Try.underlying114 Try.info160 rfl (by decide) _ N.length _ hwn rfl _ 1 (qcells x) hso rfl rfl hone (by omega) h63 ?_; intro A' k' w' ho' hk' hn')
        have hs2 := hkk.size
        have hsz : wr.heap.size ≤ (w2.alloc (.cells #[.int .u64 (x.1 : Nat), .int .u64 (x.2 : Nat)] 160)).heap.size := by rw [World.size_alloc]; omega
        have hY1 : ∀ b, (Value.slice A1 Y.length k1).ownBlock = some b → b < wr.heap.size := fun b hb => own_lt ho1 hb
        refine ⟨⟨i + 1, Y, N ++ [x], A1, k1, A', k', by omega, by simp, HTY.out.symm, HTN.out.symm, rfl, by rw [List.length_append]; rfl, ?_, ?_, hA1, ?_, ?_, kn.fresh hk' hA2, by omega, by rw [List.length_append]; simp; omega⟩, by simp [intOf]; omega⟩
        · exact own_keep ((own_keep ho1 hkk (fun _ _ h => h)).alloc (.cells #[.int .u64 (x.1 : Nat), .int .u64 (x.2 : Nat)] 160)) hk' (fun b hb e => hne b hb e)
        · rw [List.length_append, flat_snoc]; exact ho'
        · intro b hb
          rw [List.length_append] at hb
          rcases hn' b hb with e | e
          · exact hA2 b e
          · have := kn.size; omega
        · intro b hb e
          rw [List.length_append] at e
          rcases hn' b e with e | e
          · exact hne b hb e
          · have := hY1 b hb; omega
      · rw [hp] at HC tY tN
        simp only [Bool.false_eq_true, if_false, List.append_nil, Bool.not_true, if_true] at tY tN
        have HTY := Lib.hid tY
        have HTN := Lib.hid tN
        clear tY tN hp
        generalize l[i] = x at *
        go_wp2_with fail
        refine HC.out.mono ?_
        rintro e w2 ⟨rfl, hk2⟩
        have hkk : Keep No wr w2 := ((Keep.refl No wr).alloc _).trans hk2
        have hbx := hk2.blk (blk_at wr (.cells #[.int .u64 (x.1 : Nat), .int .u64 (x.2 : Nat)] 160) rfl) (fun h => h)
        have x0 := (blk_cell hbx 0).trans rfl
        have x1 := (blk_cell hbx 1).trans rfl
        clear hbx
        have hwn : (w2.alloc (.cells #[.int .u64 (x.1 : Nat), .int .u64 (x.2 : Nat)] 160)).ownsRow 0 160 2 (.slice A1 Y.length k1) Y.length (Y.flatMap qcells) := (own_keep ho1 hkk (fun _ _ h => h)).alloc _
        have hso : Sl (w2.alloc (.cells #[.int .u64 (x.1 : Nat), .int .u64 (x.2 : Nat)] 160)) (.slice (some ⟨w2.heap.size, 0, none⟩) 1 1) 1 (qcells x) := Sl.lit _ _ 160 1
        have hone := qcells_one x
        have h63 : Y.length + 1 ≤ maxLen := by simp only [maxLen]; omega
        have kn : Keep No w (w2.alloc (.cells #[.int .u64 (x.1 : Nat), .int .u64 (x.2 : Nat)] 160)) := (hk.trans hkk).alloc _
        go_wp2_with (at_builtin; refine wpList_app rfl _ _ 114 rfl 160 _ 2 16 Try.underlying114 Try.info160 rfl (by decide) _ Y.length _ hwn rfl _ 1 (qcells x) hso rfl rfl hone (by omega) h63 ?_; intro A' k' w' ho' hk' hn')
        have hs2 := hkk.size
        have hsz : wr.heap.size ≤ (w2.alloc (.cells #[.int .u64 (x.1 : Nat), .int .u64 (x.2 : Nat)] 160)).heap.size := by rw [World.size_alloc]; omega
        have hN1 : ∀ b, (Value.slice A2 N.length k2).ownBlock = some b → b < wr.heap.size := fun b hb => own_lt ho2 hb
        refine ⟨⟨i + 1, Y ++ [x], N, A', k', A2, k2, by omega, by simp, HTY.out.symm, HTN.out.symm, by rw [List.length_append]; rfl, rfl, ?_, ?_, ?_, hA2, ?_, kn.fresh hk' hA1, by rw [List.length_append]; simp; omega, by omega⟩, by simp [intOf]; omega⟩
        · rw [List.length_append, flat_snoc]; exact ho'
        · exact own_keep ((own_keep ho2 hkk (fun _ _ h => h)).alloc (.cells #[.int .u64 (x.1 : Nat), .int .u64 (x.2 : Nat)] 160)) hk' (fun b hb e => hne b e hb)
        · intro b hb
          rw [List.length_append] at hb
          rcases hn' b hb with e | e
          · exact hA1 b e
          · have := kn.size; omega
        · intro b hb e
          rw [List.length_append] at hb
          rcases hn' b hb with h | h
          · exact hne b h e
          · have := hN1 b e; omega
    · obtain rfl : i = l.length := by omega
      go_wp2_with fail
      go_ret2
      have hY' := hY.out
      have hN' := hN.out
      rw [List.take_length] at hY' hN'
      rw [← hY', ← hN']
      exact ⟨_, _, rfl, ⟨A1, k1, rfl, ho1, hA1⟩, ⟨A2, k2, rfl, ho2, hA2⟩, hk⟩

theorem part_late (c0 c1 : Value) (p : Nat × Nat → Bool) (v : Value) (l : QL) (w : World) (Env : World → Prop) (hEnv : ∀ w w', Env w → Keep No w w' → Env w') (hE : Env w) (h : P64 w v l) (hl : l.length ≤ 1048576)
    (hcl : ∀ (x : Nat × Nat) (w' : World), x ∈ l → Env w' → Calls Try.prog 82 #[.agg #[.int .u64 x.1, .int .u64 x.2], c0, c1] w' fun e w'' => e = .returned (.bool (p x)) ∧ Keep No w' w'') :
    Calls Try.prog 81 #[v, .func (.func 82) #[] #[c0, c1]] w fun e w' => ∃ y n, e = .returned (.tuple #[y, n]) ∧ NewP w w' y (l.filter p) ∧ NewP w w' n (l.filter (fun x => !p x)) ∧ Keep No w w' := by
  obtain ⟨A, c, rfl, -⟩ := Sl.shape h
  have H := Lib.hid h
  have HE := Lib.hid hE
  have HCL := Lib.hid hcl
  have HEV := Lib.hid hEnv
  clear h hE hcl hEnv
  go_enter Try.func81, Try.ntmps81
  go_wp2_with fail
  go_loopw [4, 5, 10] (fun yv nv iv wr => ∃ i Y N A1 k1 A2 k2, i ≤ l.length ∧ iv = .int .i64 (i : Nat) ∧ Hid (Y = (l.take i).filter p) ∧ Hid (N = (l.take i).filter (fun x => !p x)) ∧ yv = .slice A1 Y.length k1 ∧ nv = .slice A2 N.length k2 ∧
    wr.ownsRow 0 160 2 (.slice A1 Y.length k1) Y.length (Y.flatMap qcells) ∧ wr.ownsRow 0 160 2 (.slice A2 N.length k2) N.length (N.flatMap qcells) ∧
    (∀ b, (Value.slice A1 Y.length k1).ownBlock = some b → w.heap.size ≤ b) ∧ (∀ b, (Value.slice A2 N.length k2).ownBlock = some b → w.heap.size ≤ b) ∧
    (∀ b, (Value.slice A1 Y.length k1).ownBlock = some b → ¬ (Value.slice A2 N.length k2).ownBlock = some b) ∧ Keep No w wr ∧ Y.length ≤ i ∧ N.length ≤ i) (fun _ _ iv _ => l.length - (intOf iv).toNat)
  case atStart => exact ⟨0, [], [], none, 0, none, 0, Nat.zero_le _, rfl, by show _ = _; simp, by show _ = _; simp, rfl, rfl, World.ownsRow_nil _ _ _ _, World.ownsRow_nil _ _ _ _, fun b hb => by simp [Value.ownBlock] at hb, fun b hb => by simp [Value.ownBlock] at hb, fun b hb => by simp [Value.ownBlock] at hb, Keep.refl _ _, by simp, by simp⟩
  case round =>
    obtain ⟨i, Y, N, A1, k1, A2, k2, hi, rfl, hY, hN, rfl, rfl, ho1, ho2, hA1, hA2, hne, hk, hl1, hl2⟩ := hrel
    by_cases hlt : i < l.length
    · obtain ⟨b, o, c', hv, hc', hc1, hc2⟩ := P64.at_ (Sl.keep H.out hk (fun _ _ h => h)) i hlt
      injection hv with hAA _ hcc
      subst hAA hcc
      have hcall := HCL.out l[i] (wr.alloc (.cells #[.int .u64 (l[i].1 : Nat), .int .u64 (l[i].2 : Nat)] 160)) (List.getElem_mem hlt) (HEV.out _ _ (HEV.out _ _ HE.out hk) ((Keep.refl No wr).alloc _))
      have tY := filter_take p l i hlt
      have tN := filter_take (fun x => !p x) l i hlt
      rw [← hY.out] at tY
      rw [← hN.out] at tN
      have HC := Lib.hid hcall
      clear hcall
      cases hp : p l[i]
      · rw [hp] at HC tY tN
        simp only [Bool.false_eq_true, if_false, List.append_nil, Bool.not_false, if_true] at tY tN
        have HTY := Lib.hid tY
        have HTN := Lib.hid tN
        clear tY tN hp
        generalize l[i] = x at *
        go_wp2_with fail
        refine HC.out.mono ?_
        rintro e w2 ⟨rfl, hk2⟩
        have hkk : Keep No wr w2 := ((Keep.refl No wr).alloc _).trans hk2
        have hbx := hk2.blk (blk_at wr (.cells #[.int .u64 (x.1 : Nat), .int .u64 (x.2 : Nat)] 160) rfl) (fun h => h)
        have x0 := (blk_cell hbx 0).trans rfl
        have x1 := (blk_cell hbx 1).trans rfl
        clear hbx
        have hwn : (w2.alloc (.cells #[.int .u64 (x.1 : Nat), .int .u64 (x.2 : Nat)] 160)).ownsRow 0 160 2 (.slice A2 N.length k2) N.length (N.flatMap qcells) := (own_keep ho2 hkk (fun _ _ h => h)).alloc _
        have hso : Sl (w2.alloc (.cells #[.int .u64 (x.1 : Nat), .int .u64 (x.2 : Nat)] 160)) (.slice (some ⟨w2.heap.size, 0, none⟩) 1 1) 1 (qcells x) := Sl.lit _ _ 160 1
        have hone := qcells_one x
        have h63 : N.length + 1 ≤ maxLen := by simp only [maxLen]; omega
        have kn : Keep No w (w2.alloc (.cells #[.int .u64 (x.1 : Nat), .int .u64 (x.2 : Nat)] 160)) := (hk.trans hkk).alloc _
        go_wp2_with (at_builtin; refine wpList_app rfl _ _ 114 rfl 160 _ 2 16 Try.underlying114 Try.info160 rfl (by decide) _ N.length _ hwn rfl _ 1 (qcells x) hso rfl rfl hone (by omega) h63 ?_; intro A' k' w' ho' hk' hn')
        have hs2 := hkk.size
        have hsz : wr.heap.size ≤ (w2.alloc (.cells #[.int .u64 (x.1 : Nat), .int .u64 (x.2 : Nat)] 160)).heap.size := by rw [World.size_alloc]; omega
        have hY1 : ∀ b, (Value.slice A1 Y.length k1).ownBlock = some b → b < wr.heap.size := fun b hb => own_lt ho1 hb
        refine ⟨⟨i + 1, Y, N ++ [x], A1, k1, A', k', by omega, by simp, HTY.out.symm, HTN.out.symm, rfl, by rw [List.length_append]; rfl, ?_, ?_, hA1, ?_, ?_, kn.fresh hk' hA2, by omega, by rw [List.length_append]; simp; omega⟩, by simp [intOf]; omega⟩
        · exact own_keep ((own_keep ho1 hkk (fun _ _ h => h)).alloc (.cells #[.int .u64 (x.1 : Nat), .int .u64 (x.2 : Nat)] 160)) hk' (fun b hb e => hne b hb e)
        · rw [List.length_append, flat_snoc]; exact ho'
        · intro b hb
          rw [List.length_append] at hb
          rcases hn' b hb with e | e
          · exact hA2 b e
          · have := kn.size; omega
        · intro b hb e
          rw [List.length_append] at e
          rcases hn' b e with e | e
          · exact hne b hb e
          · have := hY1 b hb; omega
      · rw [hp] at HC tY tN
        simp only [Bool.false_eq_true, if_false, List.append_nil, Bool.not_true, if_true] at tY tN
        have HTY := Lib.hid tY
        have HTN := Lib.hid tN
        clear tY tN hp
        generalize l[i] = x at *
        go_wp2_with fail
        refine HC.out.mono ?_
        rintro e w2 ⟨rfl, hk2⟩
        have hkk : Keep No wr w2 := ((Keep.refl No wr).alloc _).trans hk2
        have hbx := hk2.blk (blk_at wr (.cells #[.int .u64 (x.1 : Nat), .int .u64 (x.2 : Nat)] 160) rfl) (fun h => h)
        have x0 := (blk_cell hbx 0).trans rfl
        have x1 := (blk_cell hbx 1).trans rfl
        clear hbx
        have hwn : (w2.alloc (.cells #[.int .u64 (x.1 : Nat), .int .u64 (x.2 : Nat)] 160)).ownsRow 0 160 2 (.slice A1 Y.length k1) Y.length (Y.flatMap qcells) := (own_keep ho1 hkk (fun _ _ h => h)).alloc _
        have hso : Sl (w2.alloc (.cells #[.int .u64 (x.1 : Nat), .int .u64 (x.2 : Nat)] 160)) (.slice (some ⟨w2.heap.size, 0, none⟩) 1 1) 1 (qcells x) := Sl.lit _ _ 160 1
        have hone := qcells_one x
        have h63 : Y.length + 1 ≤ maxLen := by simp only [maxLen]; omega
        have kn : Keep No w (w2.alloc (.cells #[.int .u64 (x.1 : Nat), .int .u64 (x.2 : Nat)] 160)) := (hk.trans hkk).alloc _
        go_wp2_with (at_builtin; refine wpList_app rfl _ _ 114 rfl 160 _ 2 16 Try.underlying114 Try.info160 rfl (by decide) _ Y.length _ hwn rfl _ 1 (qcells x) hso rfl rfl hone (by omega) h63 ?_; intro A' k' w' ho' hk' hn')
        have hs2 := hkk.size
        have hsz : wr.heap.size ≤ (w2.alloc (.cells #[.int .u64 (x.1 : Nat), .int .u64 (x.2 : Nat)] 160)).heap.size := by rw [World.size_alloc]; omega
        have hN1 : ∀ b, (Value.slice A2 N.length k2).ownBlock = some b → b < wr.heap.size := fun b hb => own_lt ho2 hb
        refine ⟨⟨i + 1, Y ++ [x], N, A', k', A2, k2, by omega, by simp, HTY.out.symm, HTN.out.symm, by rw [List.length_append]; rfl, rfl, ?_, ?_, ?_, hA2, ?_, kn.fresh hk' hA1, by rw [List.length_append]; simp; omega, by omega⟩, by simp [intOf]; omega⟩
        · rw [List.length_append, flat_snoc]; exact ho'
        · exact own_keep ((own_keep ho2 hkk (fun _ _ h => h)).alloc (.cells #[.int .u64 (x.1 : Nat), .int .u64 (x.2 : Nat)] 160)) hk' (fun b hb e => hne b e hb)
        · intro b hb
          rw [List.length_append] at hb
          rcases hn' b hb with e | e
          · exact hA1 b e
          · have := kn.size; omega
        · intro b hb e
          rw [List.length_append] at hb
          rcases hn' b hb with h | h
          · exact hne b h e
          · have := hN1 b e; omega
    · obtain rfl : i = l.length := by omega
      go_wp2_with fail
      go_ret2
      have hY' := hY.out
      have hN' := hN.out
      rw [List.take_length] at hY' hN'
      rw [← hY', ← hN']
      exact ⟨_, _, rfl, ⟨A1, k1, rfl, ho1, hA1⟩, ⟨A2, k2, rfl, ho2, hA2⟩, hk⟩
end Go.Proofs.Ytimdaioojnohmaa
