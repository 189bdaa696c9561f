/-
  queue.Part at rows of pairs walked, the closure by its contract.
  queue.New, Done and Late walked.
  keelsonlaw38.lives walked; a queue that no call made.
-/
import Derived.Test.YtimdaioojnohmaaMRows64
namespace Go.Proofs.Ytimdaioojnohmaa
open Go.RowKit

/-- A row of pairs that is nobody else's, new since w0. -/
def NewP (w0 w : World) (v : Value) (l : QL) : Prop := ∃ A k, v = .slice A l.length k ∧ w.ownsRow 0 160 2 (.slice A l.length k) l.length (l.flatMap qcells) ∧ ∀ b, (Value.slice A l.length k).ownBlock = some b → w0.heap.size ≤ b
theorem NewP.keep {w0 w w' : World} {v : Value} {l : QL} (h : NewP w0 w v l) (hk : Keep No w w') : NewP w0 w' v l := by
  obtain ⟨A, k, rfl, ho, hb⟩ := h
  exact ⟨A, k, rfl, own_keep ho hk (fun _ _ h => h), hb⟩
theorem NewP.p64 {w0 w : World} {v : Value} {l : QL} (h : NewP w0 w v l) : P64 w v l := by
  obtain ⟨A, k, rfl, ho, -⟩ := h
  exact Sl.of_own ho

theorem filter_take {α : Type} (p : α → Bool) (l : List α) (i : Nat) (h : i < l.length) : (l.take (i + 1)).filter p = (l.take i).filter p ++ if p l[i] then [l[i]] else [] := by
  rw [List.take_succ_eq_append_getElem h, List.filter_append]
  cases hp : p l[i] <;> simp [hp]

theorem part_done (c0 : Value) (p : Nat × Nat → Bool) (v : Value) (l : QL) (w : World) (Env : World → Prop) (hEnv : ∀ w w', Env w → Keep No w w' → Env w') (hE : Env w) (h : P64 w v l) (hl : l.length ≤ 1048576)
    (hcl : ∀ (x : Nat × Nat) (w' : World), x ∈ l → Env w' → Calls Try.prog 84 #[.agg #[.int .u64 x.1, .int .u64 x.2], c0] w' fun e w'' => e = .returned (.bool (p x)) ∧ Keep No w' w'') :
    Calls Try.prog 81 #[v, .func (.func 84) #[] #[c0]] w fun e w' => ∃ y n, e = .returned (.tuple #[y, n]) ∧ NewP w w' y (l.filter p) ∧ NewP w w' n (l.filter (fun x => !p x)) ∧ Keep No w w' := by
  obtain ⟨A, c, rfl, -⟩ := Sl.shape h
  have H := Lib.hid h
  have HE := Lib.hid hE
  have HCL := Lib.hid hcl
  have HEV := Lib.hid hEnv
  clear h hE hcl hEnv
  go_enter Try.func81, Try.ntmps81
  go_wp2_with fail
  go_loopw [4, 5, 10] (fun yv nv iv wr => ∃ i Y N A1 k1 A2 k2, i ≤ l.length ∧ iv = .int .i64 (i : Nat) ∧ Hid (Y = (l.take i).filter p) ∧ Hid (N = (l.take i).filter (fun x => !p x)) ∧ yv = .slice A1 Y.length k1 ∧ nv = .slice A2 N.length k2 ∧
    wr.ownsRow 0 160 2 (.slice A1 Y.length k1) Y.length (Y.flatMap qcells) ∧ wr.ownsRow 0 160 2 (.slice A2 N.length k2) N.length (N.flatMap qcells) ∧
    (∀ b, (Value.slice A1 Y.length k1).ownBlock = some b → w.heap.size ≤ b) ∧ (∀ b, (Value.slice A2 N.length k2).ownBlock = some b → w.heap.size ≤ b) ∧
    (∀ b, (Value.slice A1 Y.length k1).ownBlock = some b → ¬ (Value.slice A2 N.length k2).ownBlock = some b) ∧ Keep No w wr ∧ Y.length ≤ i ∧ N.length ≤ i) (fun _ _ iv _ => l.length - (intOf iv).toNat)
  case atStart => exact ⟨0, [], [], none, 0, none, 0, Nat.zero_le _, rfl, by show _ = _; simp, by show _ = _; simp, rfl, rfl, World.ownsRow_nil _ _ _ _, World.ownsRow_nil _ _ _ _, fun b hb => by simp [Value.ownBlock] at hb, fun b hb => by simp [Value.ownBlock] at hb, fun b hb => by simp [Value.ownBlock] at hb, Keep.refl _ _, by simp, by simp⟩
  case round =>
    obtain ⟨i, Y, N, A1, k1, A2, k2, hi, rfl, hY, hN, rfl, rfl, ho1, ho2, hA1, hA2, hne, hk, hl1, hl2⟩ := hrel
    by_cases hlt : i < l.length
    · obtain ⟨b, o, c', hv, hc', hc1, hc2⟩ := P64.at_ (Sl.keep H.out hk (fun _ _ h => h)) i hlt
      injection hv with hAA _ hcc
      subst hAA hcc
      have hcall := HCL.out l[i] (wr.alloc (.cells #[.int .u64 (l[i].1 : Nat), .int .u64 (l[i].2 : Nat)] 160)) (List.getElem_mem hlt) (HEV.out _ _ (HEV.out _ _ HE.out hk) ((Keep.refl No wr).alloc _))
      have tY := filter_take p l i hlt
      have tN := filter_take (fun x => !p x) l i hlt
      rw [← hY.out] at tY
      rw [← hN.out] at tN
      have HC := Lib.hid hcall
      clear hcall
      cases hp : p l[i]
      · rw [hp] at HC tY tN
        simp only [Bool.false_eq_true, if_false, List.append_nil, Bool.not_false, if_true] at tY tN
        have HTY := Lib.hid tY
        have HTN := Lib.hid tN
        clear tY tN hp
        generalize l[i] = x at *
        go_wp2_with fail
        refine HC.out.mono ?_
        rintro e w2 ⟨rfl, hk2⟩
        have hkk : Keep No wr w2 := ((Keep.refl No wr).alloc _).trans hk2
        have hbx := hk2.blk (blk_at wr (.cells #[.int .u64 (x.1 : Nat), .int .u64 (x.2 : Nat)] 160) rfl) (fun h => h)
        have x0 := (blk_cell hbx 0).trans rfl
        have x1 := (blk_cell hbx 1).trans rfl
        clear hbx
        have hwn : (w2.alloc (.cells #[.int .u64 (x.1 : Nat), .int .u64 (x.2 : Nat)] 160)).ownsRow 0 160 2 (.slice A2 N.length k2) N.length (N.flatMap qcells) := (own_keep ho2 hkk (fun _ _ h => h)).alloc _
        have hso : Sl (w2.alloc (.cells #[.int .u64 (x.1 : Nat), .int .u64 (x.2 : Nat)] 160)) (.slice (some ⟨w2.heap.size, 0, none⟩) 1 1) 1 (qcells x) := Sl.lit _ _ 160 1
        have hone := qcells_one x
        have h63 : N.length + 1 ≤ maxLen := by simp only [maxLen]; omega
        have kn : Keep No w (w2.alloc (.cells #[.int .u64 (x.1 : Nat), .int .u64 (x.2 : Nat)] 160)) := (hk.trans hkk).alloc _
        go_wp2_with (at_builtin; refine wpList_app rfl _ _ 114 rfl 160 _ 2 16 Try.underlying114 Try.info160 rfl (by decide) _ N.length _ hwn rfl _ 1 (qcells x) hso rfl rfl hone (by omega) h63 ?_; intro A' k' w' ho' hk' hn')
        have hs2 := hkk.size
        have hsz : wr.heap.size ≤ (w2.alloc (.cells #[.int .u64 (x.1 : Nat), .int .u64 (x.2 : Nat)] 160)).heap.size := by rw [World.size_alloc]; omega
        have hY1 : ∀ b, (Value.slice A1 Y.length k1).ownBlock = some b → b < wr.heap.size := fun b hb => own_lt ho1 hb
        refine ⟨⟨i + 1, Y, N ++ [x], A1, k1, A', k', by omega, by simp, HTY.out.symm, HTN.out.symm, rfl, by rw [List.length_append]; rfl, ?_, ?_, hA1, ?_, ?_, kn.fresh hk' hA2, by omega, by rw [List.length_append]; simp; omega⟩, by simp [intOf]; omega⟩
        · exact own_keep ((own_keep ho1 hkk (fun _ _ h => h)).alloc (.cells #[.int .u64 (x.1 : Nat), .int .u64 (x.2 : Nat)] 160)) hk' (fun b hb e => hne b hb e)
        · rw [List.length_append, flat_snoc]; exact ho'
        · intro b hb
          rw [List.length_append] at hb
          rcases hn' b hb with e | e
          · exact hA2 b e
          · have := kn.size; omega
        · intro b hb e
          rw [List.length_append] at e
          rcases hn' b e with e | e
          · exact hne b hb e
          · have := hY1 b hb; omega
      · rw [hp] at HC tY tN
        simp only [Bool.false_eq_true, if_false, List.append_nil, Bool.not_true, if_true] at tY tN
        have HTY := Lib.hid tY
        have HTN := Lib.hid tN
        clear tY tN hp
        generalize l[i] = x at *
        go_wp2_with fail
        refine HC.out.mono ?_
        rintro e w2 ⟨rfl, hk2⟩
        have hkk : Keep No wr w2 := ((Keep.refl No wr).alloc _).trans hk2
        have hbx := hk2.blk (blk_at wr (.cells #[.int .u64 (x.1 : Nat), .int .u64 (x.2 : Nat)] 160) rfl) (fun h => h)
        have x0 := (blk_cell hbx 0).trans rfl
        have x1 := (blk_cell hbx 1).trans rfl
        clear hbx
        have hwn : (w2.alloc (.cells #[.int .u64 (x.1 : Nat), .int .u64 (x.2 : Nat)] 160)).ownsRow 0 160 2 (.slice A1 Y.length k1) Y.length (Y.flatMap qcells) := (own_keep ho1 hkk (fun _ _ h => h)).alloc _
        have hso : Sl (w2.alloc (.cells #[.int .u64 (x.1 : Nat), .int .u64 (x.2 : Nat)] 160)) (.slice (some ⟨w2.heap.size, 0, none⟩) 1 1) 1 (qcells x) := Sl.lit _ _ 160 1
        have hone := qcells_one x
        have h63 : Y.length + 1 ≤ maxLen := by simp only [maxLen]; omega
        have kn : Keep No w (w2.alloc (.cells #[.int .u64 (x.1 : Nat), .int .u64 (x.2 : Nat)] 160)) := (hk.trans hkk).alloc _
        go_wp2_with (at_builtin; refine wpList_app rfl _ _ 114 rfl 160 _ 2 16 Try.underlying114 Try.info160 rfl (by decide) _ Y.length _ hwn rfl _ 1 (qcells x) hso rfl rfl hone (by omega) h63 ?_; intro A' k' w' ho' hk' hn')
        have hs2 := hkk.size
        have hsz : wr.heap.size ≤ (w2.alloc (.cells #[.int .u64 (x.1 : Nat), .int .u64 (x.2 : Nat)] 160)).heap.size := by rw [World.size_alloc]; omega
        have hN1 : ∀ b, (Value.slice A2 N.length k2).ownBlock = some b → b < wr.heap.size := fun b hb => own_lt ho2 hb
        refine ⟨⟨i + 1, Y ++ [x], N, A', k', A2, k2, by omega, by simp, HTY.out.symm, HTN.out.symm, by rw [List.length_append]; rfl, rfl, ?_, ?_, ?_, hA2, ?_, kn.fresh hk' hA1, by rw [List.length_append]; simp; omega, by omega⟩, by simp [intOf]; omega⟩
        · rw [List.length_append, flat_snoc]; exact ho'
        · exact own_keep ((own_keep ho2 hkk (fun _ _ h => h)).alloc (.cells #[.int .u64 (x.1 : Nat), .int .u64 (x.2 : Nat)] 160)) hk' (fun b hb e => hne b e hb)
        · intro b hb
          rw [List.length_append] at hb
          rcases hn' b hb with e | e
          · exact hA1 b e
          · have := kn.size; omega
        · intro b hb e
          rw [List.length_append] at hb
          rcases hn' b hb with h | h
          · exact hne b h e
          · have := hN1 b e; omega
    · obtain rfl : i = l.length := by omega
      go_wp2_with fail
      go_ret2
      have hY' := hY.out
      have hN' := hN.out
      rw [List.take_length] at hY' hN'
      rw [← hY', ← hN']
      exact ⟨_, _, rfl, ⟨A1, k1, rfl, ho1, hA1⟩, ⟨A2, k2, rfl, ho2, hA2⟩, hk⟩

theorem part_late (c0 c1 : Value) (p : Nat × Nat → Bool) (v : Value) (l : QL) (w : World) (Env : World → Prop) (hEnv : ∀ w w', Env w → Keep No w w' → Env w') (hE : Env w) (h : P64 w v l) (hl : l.length ≤ 1048576)
    (hcl : ∀ (x : Nat × Nat) (w' : World), x ∈ l → Env w' → Calls Try.prog 82 #[.agg #[.int .u64 x.1, .int .u64 x.2], c0, c1] w' fun e w'' => e = .returned (.bool (p x)) ∧ Keep No w' w'') :
    Calls Try.prog 81 #[v, .func (.func 82) #[] #[c0, c1]] w fun e w' => ∃ y n, e = .returned (.tuple #[y, n]) ∧ NewP w w' y (l.filter p) ∧ NewP w w' n (l.filter (fun x => !p x)) ∧ Keep No w w' := by
  obtain ⟨A, c, rfl, -⟩ := Sl.shape h
  have H := Lib.hid h
  have HE := Lib.hid hE
  have HCL := Lib.hid hcl
  have HEV := Lib.hid hEnv
  clear h hE hcl hEnv
  go_enter Try.func81, Try.ntmps81
  go_wp2_with fail
  go_loopw [4, 5, 10] (fun yv nv iv wr => ∃ i Y N A1 k1 A2 k2, i ≤ l.length ∧ iv = .int .i64 (i : Nat) ∧ Hid (Y = (l.take i).filter p) ∧ Hid (N = (l.take i).filter (fun x => !p x)) ∧ yv = .slice A1 Y.length k1 ∧ nv = .slice A2 N.length k2 ∧
    wr.ownsRow 0 160 2 (.slice A1 Y.length k1) Y.length (Y.flatMap qcells) ∧ wr.ownsRow 0 160 2 (.slice A2 N.length k2) N.length (N.flatMap qcells) ∧
    (∀ b, (Value.slice A1 Y.length k1).ownBlock = some b → w.heap.size ≤ b) ∧ (∀ b, (Value.slice A2 N.length k2).ownBlock = some b → w.heap.size ≤ b) ∧
    (∀ b, (Value.slice A1 Y.length k1).ownBlock = some b → ¬ (Value.slice A2 N.length k2).ownBlock = some b) ∧ Keep No w wr ∧ Y.length ≤ i ∧ N.length ≤ i) (fun _ _ iv _ => l.length - (intOf iv).toNat)
  case atStart => exact ⟨0, [], [], none, 0, none, 0, Nat.zero_le _, rfl, by show _ = _; simp, by show _ = _; simp, rfl, rfl, World.ownsRow_nil _ _ _ _, World.ownsRow_nil _ _ _ _, fun b hb => by simp [Value.ownBlock] at hb, fun b hb => by simp [Value.ownBlock] at hb, fun b hb => by simp [Value.ownBlock] at hb, Keep.refl _ _, by simp, by simp⟩
  case round =>
    obtain ⟨i, Y, N, A1, k1, A2, k2, hi, rfl, hY, hN, rfl, rfl, ho1, ho2, hA1, hA2, hne, hk, hl1, hl2⟩ := hrel
    by_cases hlt : i < l.length
    · obtain ⟨b, o, c', hv, hc', hc1, hc2⟩ := P64.at_ (Sl.keep H.out hk (fun _ _ h => h)) i hlt
      injection hv with hAA _ hcc
      subst hAA hcc
      have hcall := HCL.out l[i] (wr.alloc (.cells #[.int .u64 (l[i].1 : Nat), .int .u64 (l[i].2 : Nat)] 160)) (List.getElem_mem hlt) (HEV.out _ _ (HEV.out _ _ HE.out hk) ((Keep.refl No wr).alloc _))
      have tY := filter_take p l i hlt
      have tN := filter_take (fun x => !p x) l i hlt
      rw [← hY.out] at tY
      rw [← hN.out] at tN
      have HC := Lib.hid hcall
      clear hcall
      cases hp : p l[i]
      · rw [hp] at HC tY tN
        simp only [Bool.false_eq_true, if_false, List.append_nil, Bool.not_false, if_true] at tY tN
        have HTY := Lib.hid tY
        have HTN := Lib.hid tN
        clear tY tN hp
        generalize l[i] = x at *
        go_wp2_with fail
        refine HC.out.mono ?_
        rintro e w2 ⟨rfl, hk2⟩
        have hkk : Keep No wr w2 := ((Keep.refl No wr).alloc _).trans hk2
        have hbx := hk2.blk (blk_at wr (.cells #[.int .u64 (x.1 : Nat), .int .u64 (x.2 : Nat)] 160) rfl) (fun h => h)
        have x0 := (blk_cell hbx 0).trans rfl
        have x1 := (blk_cell hbx 1).trans rfl
        clear hbx
        have hwn : (w2.alloc (.cells #[.int .u64 (x.1 : Nat), .int .u64 (x.2 : Nat)] 160)).ownsRow 0 160 2 (.slice A2 N.length k2) N.length (N.flatMap qcells) := (own_keep ho2 hkk (fun _ _ h => h)).alloc _
        have hso : Sl (w2.alloc (.cells #[.int .u64 (x.1 : Nat), .int .u64 (x.2 : Nat)] 160)) (.slice (some ⟨w2.heap.size, 0, none⟩) 1 1) 1 (qcells x) := Sl.lit _ _ 160 1
        have hone := qcells_one x
        have h63 : N.length + 1 ≤ maxLen := by simp only [maxLen]; omega
        have kn : Keep No w (w2.alloc (.cells #[.int .u64 (x.1 : Nat), .int .u64 (x.2 : Nat)] 160)) := (hk.trans hkk).alloc _
        go_wp2_with (at_builtin; refine wpList_app rfl _ _ 114 rfl 160 _ 2 16 Try.underlying114 Try.info160 rfl (by decide) _ N.length _ hwn rfl _ 1 (qcells x) hso rfl rfl hone (by omega) h63 ?_; intro A' k' w' ho' hk' hn')
        have hs2 := hkk.size
        have hsz : wr.heap.size ≤ (w2.alloc (.cells #[.int .u64 (x.1 : Nat), .int .u64 (x.2 : Nat)] 160)).heap.size := by rw [World.size_alloc]; omega
        have hY1 : ∀ b, (Value.slice A1 Y.length k1).ownBlock = some b → b < wr.heap.size := fun b hb => own_lt ho1 hb
        refine ⟨⟨i + 1, Y, N ++ [x], A1, k1, A', k', by omega, by simp, HTY.out.symm, HTN.out.symm, rfl, by rw [List.length_append]; rfl, ?_, ?_, hA1, ?_, ?_, kn.fresh hk' hA2, by omega, by rw [List.length_append]; simp; omega⟩, by simp [intOf]; omega⟩
        · exact own_keep ((own_keep ho1 hkk (fun _ _ h => h)).alloc (.cells #[.int .u64 (x.1 : Nat), .int .u64 (x.2 : Nat)] 160)) hk' (fun b hb e => hne b hb e)
        · rw [List.length_append, flat_snoc]; exact ho'
        · intro b hb
          rw [List.length_append] at hb
          rcases hn' b hb with e | e
          · exact hA2 b e
          · have := kn.size; omega
        · intro b hb e
          rw [List.length_append] at e
          rcases hn' b e with e | e
          · exact hne b hb e
          · have := hY1 b hb; omega
      · rw [hp] at HC tY tN
        simp only [Bool.false_eq_true, if_false, List.append_nil, Bool.not_true, if_true] at tY tN
        have HTY := Lib.hid tY
        have HTN := Lib.hid tN
        clear tY tN hp
        generalize l[i] = x at *
        go_wp2_with fail
        refine HC.out.mono ?_
        rintro e w2 ⟨rfl, hk2⟩
        have hkk : Keep No wr w2 := ((Keep.refl No wr).alloc _).trans hk2
        have hbx := hk2.blk (blk_at wr (.cells #[.int .u64 (x.1 : Nat), .int .u64 (x.2 : Nat)] 160) rfl) (fun h => h)
        have x0 := (blk_cell hbx 0).trans rfl
        have x1 := (blk_cell hbx 1).trans rfl
        clear hbx
        have hwn : (w2.alloc (.cells #[.int .u64 (x.1 : Nat), .int .u64 (x.2 : Nat)] 160)).ownsRow 0 160 2 (.slice A1 Y.length k1) Y.length (Y.flatMap qcells) := (own_keep ho1 hkk (fun _ _ h => h)).alloc _
        have hso : Sl (w2.alloc (.cells #[.int .u64 (x.1 : Nat), .int .u64 (x.2 : Nat)] 160)) (.slice (some ⟨w2.heap.size, 0, none⟩) 1 1) 1 (qcells x) := Sl.lit _ _ 160 1
        have hone := qcells_one x
        have h63 : Y.length + 1 ≤ maxLen := by simp only [maxLen]; omega
        have kn : Keep No w (w2.alloc (.cells #[.int .u64 (x.1 : Nat), .int .u64 (x.2 : Nat)] 160)) := (hk.trans hkk).alloc _
        go_wp2_with (at_builtin; refine wpList_app rfl _ _ 114 rfl 160 _ 2 16 Try.underlying114 Try.info160 rfl (by decide) _ Y.length _ hwn rfl _ 1 (qcells x) hso rfl rfl hone (by omega) h63 ?_; intro A' k' w' ho' hk' hn')
        have hs2 := hkk.size
        have hsz : wr.heap.size ≤ (w2.alloc (.cells #[.int .u64 (x.1 : Nat), .int .u64 (x.2 : Nat)] 160)).heap.size := by rw [World.size_alloc]; omega
        have hN1 : ∀ b, (Value.slice A2 N.length k2).ownBlock = some b → b < wr.heap.size := fun b hb => own_lt ho2 hb
        refine ⟨⟨i + 1, Y ++ [x], N, A', k', A2, k2, by omega, by simp, HTY.out.symm, HTN.out.symm, by rw [List.length_append]; rfl, rfl, ?_, ?_, ?_, hA2, ?_, kn.fresh hk' hA1, by rw [List.length_append]; simp; omega, by omega⟩, by simp [intOf]; omega⟩
        · rw [List.length_append, flat_snoc]; exact ho'
        · exact own_keep ((own_keep ho2 hkk (fun _ _ h => h)).alloc (.cells #[.int .u64 (x.1 : Nat), .int .u64 (x.2 : Nat)] 160)) hk' (fun b hb e => hne b e hb)
        · intro b hb
          rw [List.length_append] at hb
          rcases hn' b hb with e | e
          · exact hA1 b e
          · have := kn.size; omega
        · intro b hb e
          rw [List.length_append] at hb
          rcases hn' b hb with h | h
          · exact hne b h e
          · have := hN1 b e; omega
    · obtain rfl : i = l.length := by omega
      go_wp2_with fail
      go_ret2
      have hY' := hY.out
      have hN' := hN.out
      rw [List.take_length] at hY' hN'
      rw [← hY', ← hN']
      exact ⟨_, _, rfl, ⟨A1, k1, rfl, ho1, hA1⟩, ⟨A2, k2, rfl, ho2, hA2⟩, hk⟩
end Go.Proofs.Ytimdaioojnohmaa

namespace Go.Proofs.Ytimdaioojnohmaa
open Go.RowKit

theorem done1_any (x y id g : Nat) (w : World) (h : w.cell? ⟨g, 0, none⟩ = some (.int .u64 (id : Nat))) : Calls Try.prog 84 #[.agg #[.int .u64 x, .int .u64 y], .pointer (some ⟨g, 0, none⟩)] w fun e w' => e = .returned (.bool (x == id)) ∧ Keep No w w' := by
  have hg := World.block_lt_of_cell? w _ h
  have hgg : g < w.heap.size := hg
  clear hg
  by_cases he : x = id
  · have h1 : ((x : Int) == (id : Int)) = true := beq_iff_eq.2 (by omega)
    have HD := Lib.hid (beq_iff_eq.2 he)
    clear he
    go_enter Try.func84, Try.ntmps84
    go_wp2_with fail
    go_ret
    exact ⟨ret_bool HD.out.symm, (Keep.refl _ _).alloc _⟩
  · have h1 : ((x : Int) == (id : Int)) = false := beq_eq_false_iff_ne.2 (by omega)
    have HD := Lib.hid (beq_eq_false_iff_ne.2 he)
    clear he
    go_enter Try.func84, Try.ntmps84
    go_wp2_with fail
    go_ret
    exact ⟨ret_bool HD.out.symm, (Keep.refl _ _).alloc _⟩

theorem late1_any (x y now pat g1 g2 g : Nat) (w : World) (hnow : now < 18446744073709551616) (hy : y < 18446744073709551616) (h1 : w.cell? ⟨g1, 0, none⟩ = some (.int .u64 (now : Nat))) (h2 : w.cell? ⟨g2, 0, none⟩ = some (.pointer (some ⟨g, 0, none⟩)))
    (h3 : w.cell? ⟨g, 1, none⟩ = some (.int .u64 (pat : Nat))) : Calls Try.prog 82 #[.agg #[.int .u64 x, .int .u64 y], .pointer (some ⟨g1, 0, none⟩), .pointer (some ⟨g2, 0, none⟩)] w fun e w' => e = .returned (.bool (islate pat now (x, y))) ∧ Keep No w w' := by
  have hg1 : g1 < w.heap.size := World.block_lt_of_cell? w _ h1
  have hg2 : g2 < w.heap.size := World.block_lt_of_cell? w _ h2
  have hg3 : g < w.heap.size := World.block_lt_of_cell? w _ h3
  by_cases hle : y ≤ now
  · obtain ⟨d, hd⟩ : ∃ d, now - y = d := ⟨_, rfl⟩
    have hdi : (now : Int) - (y : Int) = (d : Nat) := by omega
    have hwd := IntWalk.u64_in (d : Int) (by omega)
    have hy1 : decide ((y : Int) ≤ (now : Int)) = true := by simp; omega
    have hy2 : decide (y ≤ now) = true := by simp; omega
    by_cases hp : pat ≤ d
    · have hp1 : decide ((pat : Int) ≤ (d : Int)) = true := by simp; omega
      have hp2 : decide (pat ≤ d) = true := by simp; omega
      have HL : Hid (islate pat now (x, y) = true) := by
        show _ = true
        unfold islate; rw [hd]; simp [hle, hp]
      clear hd hnow hy hle hp
      go_enter Try.func82, Try.ntmps82
      go_wp2_with fail
      go_big_quiet (fail)
      go_wp2_with fail
      go_ret
      exact ⟨ret_bool HL.out.symm, ((Keep.refl _ _).alloc _).drewN _⟩
    · have hp1 : decide ((pat : Int) ≤ (d : Int)) = false := by simp; omega
      have hp2 : decide (pat ≤ d) = false := by simp; omega
      have HL : Hid (islate pat now (x, y) = false) := by
        show _ = false
        unfold islate; rw [hd]; simp [hle]; omega
      clear hd hnow hy hle hp
      go_enter Try.func82, Try.ntmps82
      go_wp2_with fail
      go_big_quiet (fail)
      go_wp2_with fail
      go_ret
      exact ⟨ret_bool HL.out.symm, ((Keep.refl _ _).alloc _).drewN _⟩
  · have hy1 : decide ((y : Int) ≤ (now : Int)) = false := by simp; omega
    have hy2 : decide (y ≤ now) = false := by simp; omega
    have HL : Hid (islate pat now (x, y) = false) := by
      show _ = false
      unfold islate; simp [hle]
    clear hnow hy hle
    go_enter Try.func82, Try.ntmps82
    go_wp2_with fail
    go_big_quiet (fail)
    go_wp2_with fail
    go_ret
    exact ⟨ret_bool HL.out.symm, ((Keep.refl _ _).alloc _).drewN _⟩

theorem qdone_any (B g most pat id : Nat) (l : QL) (w : World) (h : QAt B w g most pat l) (h0 : 0 < most) (hBw : B ≤ w.heap.size) :
    Calls Try.prog 49 #[.pointer (some ⟨g, 0, none⟩), .int .u64 id] w fun e w' => e = .returned (.int .i64 ((qdone l id).1 : Nat)) ∧ QAt B w' g most pat (qdone l id).2 ∧ KeepZ (TQ B) w w' := by
  have k1 : Keep No w (w.alloc (.cells #[.int .u64 (id : Nat)] 29)) := (Keep.refl _ _).alloc _
  have hw1 := h.no k1
  have hid0 := (blk_cell (blk_at w (.cells #[.int .u64 (id : Nat)] 29) rfl) 0).trans rfl
  have hn := qnone_any B g most pat l _ hw1
  rw [decide_eq_false (by omega)] at hn
  have hh := qhas_any B g most pat id l _ hw1
  have HQ := Lib.hid hw1
  have HN := Lib.hid hn
  clear hn hw1
  unfold qdone
  by_cases hhas : qhas l id = true
  · rw [if_pos hhas]
    rw [hhas] at hh
    have HH := Lib.hid hh
    clear hh hhas h
    go_enter Try.func49, Try.ntmps49
    go_wp2_with fail
    refine HN.out.mono ?_
    rintro e w1 ⟨rfl, rfl⟩
    go_wp2_with fail
    refine HH.out.mono ?_
    rintro e w1 ⟨rfl, hk⟩
    have hq1 := HQ.out.no hk
    have HQ1 := Lib.hid hq1
    have hid1 := hk.cellSome hid0 (fun h => h)
    obtain ⟨A, k, hb, ho, hg, hA, hm, hl, hp⟩ := hq1
    have c2 := (blk_cell hb 2).trans rfl
    have hpart := part_done (.pointer (some ⟨w.heap.size, 0, none⟩)) (fun x => x.1 == id) _ l w1 (fun w' => w'.cell? ⟨w.heap.size, 0, none⟩ = some (.int .u64 (id : Nat))) (fun a b ha hk => hk.cellSome ha (fun h => h)) hid1 (Sl.of_own ho) (by omega)
      (fun x w' _ he => done1_any x.1 x.2 id w.heap.size w' he)
    have HP := Lib.hid hpart
    have HB := Lib.hid hb
    clear hpart hb ho hid0
    go_wp2_with fail
    refine HP.out.mono ?_
    rintro e w2 ⟨y, n, rfl, -, hn2, hk2⟩
    obtain ⟨A2, kk2, rfl, ho2, hA2⟩ := hn2
    have hb2 := hk2.blk HB.out (fun h => h)
    have fr2 := blk_free hb2 2
    have cc2 := (blk_cell hb2 2).trans rfl
    have HB2 := Lib.hid hb2
    clear hb2 c2
    go_wp2_with fail
    go_ret
    have hz : KeepZ (TQ B) w w2 := KeepZ.of ((k1.trans hk).trans hk2)
    have hkk := ((k1.trans hk)).size
    have hlf := List.length_filter_le (fun x : Nat × Nat => !(x.1 == id)) l
    refine ⟨rfl, ⟨A2, kk2, blk_set HB2.out 2 _, ?_, hg, fun b hb => ?_, hm, by omega, hp⟩, hz.setCell HB2.out ⟨hg, .inl rfl⟩ _⟩
    · refine ownsRow_setCell_other ho2 (fun e => ?_) _
      obtain ⟨cur, hcur⟩ := own_blk ho2 e
      exact blk_ne HB2.out hcur (by decide) rfl
    · have := hA2 b hb; omega
  · rw [if_neg hhas]
    rw [Bool.not_eq_true] at hhas
    rw [hhas] at hh
    have HH := Lib.hid hh
    clear hh hhas h
    go_enter Try.func49, Try.ntmps49
    go_wp2_with fail
    refine HN.out.mono ?_
    rintro e w1 ⟨rfl, rfl⟩
    go_wp2_with fail
    refine HH.out.mono ?_
    rintro e w1 ⟨rfl, hk⟩
    go_wp2_with fail
    go_ret
    exact ⟨rfl, HQ.out.no hk, KeepZ.of (k1.trans hk)⟩

theorem qlate_any (B g most pat now : Nat) (l : QL) (w : World) (h : QAt B w g most pat l) (h0 : 0 < most) (hBw : B ≤ w.heap.size) (hnow : now < 18446744073709551616) (hQB : QB l) :
    Calls Try.prog 42 #[.pointer (some ⟨g, 0, none⟩), .int .u64 now] w fun e w' => ∃ r, e = .returned r ∧ New64 w w' r (qlate pat l now).1 ∧ QAt B w' g most pat (qlate pat l now).2 ∧ KeepZ (TQ B) w w' := by
  have k1 : Keep No w ((w.alloc (.cells #[.pointer (some ⟨g, 0, none⟩)] 66)).alloc (.cells #[.int .u64 (now : Nat)] 29)) := ((Keep.refl _ _).alloc _).alloc _
  have hw1 := h.no k1
  have hq0 := (blk_cell (blk_old (blk_at w (.cells #[.pointer (some ⟨g, 0, none⟩)] 66) rfl) (.cells #[.int .u64 (now : Nat)] 29)) 0).trans rfl
  have hn0 := (blk_cell (blk_at (w.alloc (.cells #[.pointer (some ⟨g, 0, none⟩)] 66)) (.cells #[.int .u64 (now : Nat)] 29) (n := w.heap.size + 1) (by simp)) 0).trans rfl
  have hn := qnone_any B g most pat l _ hw1
  rw [decide_eq_false (by omega)] at hn
  have HN := Lib.hid hn
  have HQ := Lib.hid hw1
  have hgl : g < w.heap.size := by obtain ⟨A, k, hb, -⟩ := h; exact lt_of_block hb
  clear hn h
  obtain ⟨A, k, hb, ho, hg, hA, hm, hl, hp⟩ := hw1
  have c2 := (blk_cell hb 2).trans rfl
  have c1 := (blk_cell hb 1).trans rfl
  have hpart := part_late (.pointer (some ⟨w.heap.size + 1, 0, none⟩)) (.pointer (some ⟨w.heap.size, 0, none⟩)) (islate pat now) _ l _
    (fun w' => w'.cell? ⟨w.heap.size + 1, 0, none⟩ = some (.int .u64 (now : Nat)) ∧ w'.cell? ⟨w.heap.size, 0, none⟩ = some (.pointer (some ⟨g, 0, none⟩)) ∧ w'.cell? ⟨g, 1, none⟩ = some (.int .u64 (pat : Nat)))
    (fun a b ha hk => ⟨hk.cellSome ha.1 (fun h => h), hk.cellSome ha.2.1 (fun h => h), hk.cellSome ha.2.2 (fun h => h)⟩) ⟨hn0, hq0, c1⟩ (Sl.of_own ho) (by omega)
    (fun x w' hx he => late1_any x.1 x.2 now pat (w.heap.size + 1) w.heap.size g w' hnow (hQB x hx).2 he.1 he.2.1 he.2.2)
  have HP := Lib.hid hpart
  have HB := Lib.hid hb
  have H0 := Lib.hid hq0
  clear hpart hb ho hn0 hq0 c1 hnow hQB
  go_enter Try.func42, Try.ntmps42
  go_wp2_with fail
  refine HN.out.mono ?_
  rintro e w1 ⟨rfl, rfl⟩
  go_wp2_with fail
  refine HP.out.mono ?_
  rintro e w2 ⟨y, n, rfl, hy2, hn2, hk2⟩
  obtain ⟨A2, kk2, rfl, ho2, hA2⟩ := hn2
  have hb2 := hk2.blk HB.out (fun h => h)
  have fr2 := blk_free hb2 2
  have cc2 := (blk_cell hb2 2).trans rfl
  have q2 := hk2.cellSome H0.out (fun h => h)
  have HB2 := Lib.hid hb2
  have HY := Lib.hid hy2
  clear hb2 c2
  obtain ⟨A1, kk1, rfl, ho1, hA1⟩ := hy2
  have hne : ∀ b cur, w2.heap[b]? = some (.cells cur 160 (0, 0)) → b ≠ g := fun b cur hb e => by
    have := HB2.out
    subst e
    exact blk_ne hb this (by decide) rfl
  have hy3 : P64 (w2.setCell ⟨g, 2, none⟩ (.slice A2 (l.filter (fun x => !islate pat now x)).length kk2)) (.slice A1 (l.filter (islate pat now)).length kk1) (l.filter (islate pat now)) :=
    Sl.of_own (ownsRow_setCell_other ho1 (fun e => by obtain ⟨cur, hcur⟩ := own_blk ho1 e; exact hne _ _ hcur rfl) _)
  have hlf := List.length_filter_le (islate pat now) l
  have hlf2 := List.length_filter_le (fun x => !islate pat now x) l
  have hi := ids_any _ _ _ hy3 (by omega)
  have HI := Lib.hid hi
  have HO2 := Lib.hid ho2
  clear hi hy3 ho1 ho2
  have hgs : g < w2.heap.size := lt_of_block HB2.out
  go_wp2_with fail
  refine HI.out.mono ?_
  rintro e w3 ⟨r, rfl, hr3, hk3⟩
  go_wp2_with fail
  go_ret
  have hz : KeepZ (TQ B) w w2 := KeepZ.of (k1.trans hk2)
  have hs := (k1.trans hk2).size
  refine ⟨_, rfl, hr3.since (by simp; omega), QAt.no ⟨A2, kk2, blk_set HB2.out 2 _, ?_, hg, fun b hb => ?_, hm, by show List.length (List.filter _ _) ≤ _; omega, hp⟩ hk3, (hz.setCell HB2.out ⟨hg, .inl rfl⟩ _).then hk3⟩
  · refine ownsRow_setCell_other HO2.out (fun e => ?_) _
    obtain ⟨cur, hcur⟩ := own_blk HO2.out e
    exact hne _ _ hcur rfl
  · have := hA2 b hb
    have := k1.size
    omega

theorem qnew_bad (most : Int) (pat : Nat) (w : World) (h : most < 1 ∨ 64 < most ∨ pat = 0) (h1 : -9223372036854775808 ≤ most) (h2 : most ≤ 9223372036854775807) : Calls Try.prog 41 #[.int .i64 most, .int .u64 pat] w fun e w' => e = .returned (.pointer none) ∧ w = w' := by
  by_cases a1 : most < 1
  · go_enter Try.func41, Try.ntmps41
    go_wp2_with fail
    go_ret
    exact ⟨rfl, rfl⟩
  by_cases a2 : 64 < most
  · go_enter Try.func41, Try.ntmps41
    go_wp2_with fail
    go_ret
    exact ⟨rfl, rfl⟩
  · obtain rfl : pat = 0 := by omega
    go_enter Try.func41, Try.ntmps41
    go_wp2_with fail
    go_ret
    exact ⟨rfl, rfl⟩
theorem qnew_any (most pat : Nat) (w : World) (h1 : 0 < most) (h2 : most ≤ 64) (h3 : 0 < pat) (h4 : pat < 18446744073709551616) : Calls Try.prog 41 #[.int .i64 most, .int .u64 pat] w fun e w' =>
    e = .returned (.pointer (some ⟨w.heap.size, 0, none⟩)) ∧ QAt w.heap.size w' w.heap.size most pat [] ∧ w' = w.alloc (.cells #[.int .i64 most, .int .u64 pat, .slice none 0 0] 116) := by
  have hz : ((pat : Int) == 0) = false := beq_eq_false_iff_ne.2 (by omega)
  have a1 : ¬ (most : Int) < 1 := by omega
  have a2 : ¬ (64 : Int) < most := by omega
  have H4 := Lib.hid h4
  clear h4
  go_enter Try.func41, Try.ntmps41
  go_wp2_with fail
  go_ret
  exact ⟨rfl, ⟨none, 0, blk_at _ _ rfl, World.ownsRow_nil _ _ _ _, Nat.le_refl _, fun b hb => by simp [Value.ownBlock] at hb, h2, by simp, H4.out⟩, rfl⟩
end Go.Proofs.Ytimdaioojnohmaa

namespace Go.Proofs.Ytimdaioojnohmaa
open Go.RowKit

theorem lives38_any (w : World) : Calls Try.prog 40 #[] w fun e w' => e = .returned (.bool true) ∧ Keep No w w' := by
  have hn := qnew_any 4 5 w (by decide) (by decide) (by decide) (by decide)
  have HN := Lib.hid hn
  clear hn
  go_enter Try.func40, Try.ntmps40
  go_wp2_with fail
  refine HN.out.mono ?_
  rintro e w1 ⟨rfl, hq, hw⟩
  have hB : w.heap.size ≤ w1.heap.size := by rw [hw, World.size_alloc]; omega
  have k1 : KeepZ (TQ w.heap.size) w w1 := by rw [hw]; exact (KeepZ.refl _ _).alloc _
  have hp := qput_any _ _ 4 5 1 0 [] w1 hq (by decide) hB
  rw [show qput 4 [] 1 0 = (0, [(1, 0)]) from rfl] at hp
  have HP := Lib.hid hp
  clear hp hq hw
  go_wp2_with fail
  refine HP.out.mono ?_
  rintro e w2 ⟨rfl, hq2, k2⟩
  have hp := qput_any _ _ 4 5 2 3 [(1, 0)] w2 hq2 (by decide) (Nat.le_trans hB k2.size)
  rw [show qput 4 [(1, 0)] 2 3 = (0, [(1, 0), (2, 3)]) from rfl] at hp
  have HP2 := Lib.hid hp
  clear hp hq2
  go_wp2_with fail
  refine HP2.out.mono ?_
  rintro e w3 ⟨rfl, hq3, k3⟩
  have hl := qlate_any _ _ 4 5 5 [(1, 0), (2, 3)] w3 hq3 (by decide) (Nat.le_trans hB (Nat.le_trans k2.size k3.size)) (by decide) (by intro x hx; simp at hx; rcases hx with rfl | rfl <;> decide)
  rw [show qlate 5 [(1, 0), (2, 3)] 5 = ([1], [(2, 3)]) from rfl] at hl
  have HL := Lib.hid hl
  clear hl hq3
  go_wp2_with fail
  refine HL.out.mono ?_
  rintro e w4 ⟨r, rfl, hr, hq4, k4⟩
  obtain ⟨b, o, c, rfl, hc, hcell⟩ := hr.n64.at_ 0 (by decide)
  have hh := qhas_any _ _ 4 5 2 [(2, 3)] w4 hq4
  rw [show qhas [(2, 3)] 2 = true from rfl] at hh
  have HH := Lib.hid hh
  have hc1 : 1 ≤ c := hc
  clear hh hq4 hr hc
  have hcell1 : w4.cell? ⟨b, o, none⟩ = some (.int .u64 1) := hcell
  clear hcell
  go_wp2_with fail
  refine HH.out.mono ?_
  rintro e w5 ⟨rfl, k5⟩
  go_wp2_with fail
  go_ret
  exact ⟨rfl, (((k1.trans k2).trans k3).trans k4).then k5 |>.no (fun k s h => h.1)⟩

/-- A queue that no call made: none, or with a most of nought. -/
def Nobody (w : World) (p : Value) : Prop := p = .pointer none ∨ ∃ g, p = .pointer (some ⟨g, 0, none⟩) ∧ QAt 0 w g 0 0 []
theorem Nobody.keep {w w' : World} {p : Value} (h : Nobody w p) (hk : Keep No w w') : Nobody w' p := by
  rcases h with rfl | ⟨g, rfl, h⟩
  · exact .inl rfl
  · exact .inr ⟨g, rfl, h.no hk⟩
theorem qnone_nobody (w : World) (p : Value) (h : Nobody w p) : Calls Try.prog 80 #[p] w fun e w' => e = .returned (.bool true) ∧ w = w' := by
  rcases h with rfl | ⟨g, rfl, h⟩
  · exact qnone_nil w
  · exact qnone_any 0 g 0 0 [] w h
theorem qput_nobody (w : World) (p : Value) (id now : Nat) (h : Nobody w p) : Calls Try.prog 44 #[p, .int .u64 id, .int .u64 now] w fun e w' => e = .returned (.int .i64 1) ∧ w = w' := by
  have hn := qnone_nobody w p h
  clear h
  go_enter Try.func44, Try.ntmps44
  go_wp2_with fail
  refine hn.mono ?_
  rintro e w1 ⟨rfl, rfl⟩
  go_wp2_with fail
  go_ret
  exact ⟨rfl, rfl⟩
theorem qdone_nobody (w : World) (p : Value) (id : Nat) (h : Nobody w p) : Calls Try.prog 49 #[p, .int .u64 id] w fun e w' => e = .returned (.int .i64 1) ∧ Keep No w w' := by
  have k1 : Keep No w (w.alloc (.cells #[.int .u64 (id : Nat)] 29)) := (Keep.refl _ _).alloc _
  have hn := qnone_nobody _ p (h.keep k1)
  clear h
  go_enter Try.func49, Try.ntmps49
  go_wp2_with fail
  refine hn.mono ?_
  rintro e w1 ⟨rfl, rfl⟩
  go_wp2_with fail
  go_ret
  exact ⟨rfl, k1⟩
theorem qlate_nobody (w : World) (p : Value) (now : Nat) (h : Nobody w p) : Calls Try.prog 42 #[p, .int .u64 now] w fun e w' => e = .returned (.slice none 0 0) ∧ Keep No w w' := by
  have k1 : Keep No w ((w.alloc (.cells #[p] 66)).alloc (.cells #[.int .u64 (now : Nat)] 29)) := ((Keep.refl _ _).alloc _).alloc _
  have hn := qnone_nobody _ p (h.keep k1)
  have c0 := (blk_cell (blk_old (blk_at w (.cells #[p] 66) rfl) (.cells #[.int .u64 (now : Nat)] 29)) 0).trans rfl
  have hsz : w.heap.size < ((w.alloc (.cells #[p] 66)).alloc (.cells #[.int .u64 (now : Nat)] 29)).heap.size := by simp; omega
  rcases h with rfl | ⟨g, rfl, h⟩
  all_goals
    try clear h
    go_enter Try.func42, Try.ntmps42
    go_wp2_with fail
    refine hn.mono ?_
    rintro e w1 ⟨rfl, rfl⟩
    go_wp2_with fail
    go_ret
    exact ⟨rfl, k1⟩
theorem qall_nobody (w : World) (p : Value) (h : Nobody w p) : Calls Try.prog 43 #[p] w fun e w' => ∃ k A, e = .returned (.slice A 0 k) ∧ Sl w' (.slice A 0 k) 0 [] ∧ Keep No w w' := by
  rcases h with rfl | ⟨g, rfl, h⟩
  · exact (qall_nil w).mono fun e w' ⟨he, hw⟩ => ⟨0, none, he, Sl.nil _, hw ▸ Keep.refl _ _⟩
  · exact (qall_any 0 g 0 0 [] w h).mono fun e w' ⟨r, he, hr, hk⟩ => by
      obtain ⟨A, k, rfl, ho, -⟩ := hr
      exact ⟨k, A, he, Sl.of_own ho, hk⟩
theorem qlen_nobody (w : World) (p : Value) (h : Nobody w p) : Calls Try.prog 53 #[p] w fun e w' => e = .returned (.int .i64 0) ∧ Keep No w w' := by
  have hi := qall_nobody w p h
  clear h
  go_enter Try.func53, Try.ntmps53
  go_wp2_with fail
  refine hi.mono ?_
  rintro e w' ⟨k, A, rfl, hr, hk⟩
  go_wp2_with fail
  go_ret
  exact ⟨rfl, hk⟩
theorem qhas_nobody (w : World) (p : Value) (id : Nat) (h : Nobody w p) : Calls Try.prog 54 #[p, .int .u64 id] w fun e w' => e = .returned (.bool false) ∧ Keep No w w' := by
  have hi := qall_nobody w p h
  clear h
  go_enter Try.func54, Try.ntmps54
  go_wp2_with fail
  refine hi.mono ?_
  rintro e w' ⟨k, A, rfl, hr, hk⟩
  have hc := contains_any (.slice A 0 k) [] id w' hr (by decide)
  rw [show decide (id ∈ ([] : List Nat)) = false from by simp] at hc
  go_wp2_with fail
  refine hc.mono ?_
  rintro e w2 ⟨rfl, rfl⟩
  go_wp2_with fail
  go_ret
  exact ⟨rfl, hk⟩
end Go.Proofs.Ytimdaioojnohmaa
