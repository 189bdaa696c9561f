/-
  (*Disk).waiting walked, at each of its closures.
-/
import Derived.Test.YtimdaioojnohmaaMDAdd
namespace Go.Proofs.Ytimdaioojnohmaa
open Go.RowKit Go.Maps
variable {X : Nat → Prop}

def waitsTo (ts : List DTask) (p : DTask → Bool) (k : Nat) : List Nat := ((List.range k).filter (fun i => ((ts.getD i default).state == 1) && p (ts.getD i default))).map (· + 1)
theorem waitsTo_all (ts : List DTask) (p : DTask → Bool) : waitsTo ts p ts.length = dwaitOf ts p := rfl
theorem waitsTo_hit (ts : List DTask) (p : DTask → Bool) (k : Nat) (h : k < ts.length) (h1 : ts[k].state = 1) (h2 : p ts[k] = true) : waitsTo ts p (k + 1) = waitsTo ts p k ++ [k + 1] := by
  unfold waitsTo
  rw [List.range_succ, List.filter_append, List.map_append]
  simp [h, h1, h2]
theorem waitsTo_miss (ts : List DTask) (p : DTask → Bool) (k : Nat) (h : k < ts.length) (h1 : ¬ (ts[k].state = 1 ∧ p ts[k] = true)) : waitsTo ts p (k + 1) = waitsTo ts p k := by
  unfold waitsTo
  rw [List.range_succ, List.filter_append, List.map_append]
  by_cases e : ts[k].state = 1
  · have : p ts[k] = false := by simpa [e] using h1
    simp [h, e, this]
  · simp [h, e]
theorem waitsTo_len (ts : List DTask) (p : DTask → Bool) (k : Nat) : (waitsTo ts p k).length ≤ k := by
  unfold waitsTo
  rw [List.length_map]
  exact Nat.le_trans (List.length_filter_le _ _) (by simp)
theorem says_true (v : Value) (w : World) : Calls Try.prog 70 #[v] w fun e w' => e = .returned (.bool true) ∧ w = w' := by
  go_enter Try.func70, Try.ntmps70
  go_wp2_with fail
  go_ret
  exact ⟨rfl, rfl⟩
theorem says_write (tb : Nat) (b : Bool) (w : World) (h : w.cell? ⟨tb, 1, none⟩ = some (.bool b)) : Calls Try.prog 72 #[.pointer (some ⟨tb, 0, none⟩)] w fun e w' => e = .returned (.bool b) ∧ w = w' := by
  go_enter Try.func72, Try.ntmps72
  go_wp2_with fail
  go_ret
  exact ⟨rfl, rfl⟩
theorem says_none (tb n k : Nat) (A : Option Addr) (w : World) (h : w.cell? ⟨tb, 0, none⟩ = some (.slice A n k)) : Calls Try.prog 92 #[.pointer (some ⟨tb, 0, none⟩)] w fun e w' => e = .returned (.bool (n == 0)) ∧ w = w' := by
  by_cases h0 : n = 0
  · subst h0
    go_enter Try.func92, Try.ntmps92
    go_wp2_with fail
    go_ret
    exact ⟨rfl, rfl⟩
  · have h1 : ((n : Int) == 0) = false := beq_eq_false_iff_ne.2 (by omega)
    have h2 : (n == 0) = false := beq_eq_false_iff_ne.2 h0
    have HD := Lib.hid h2
    clear h0 h2
    go_enter Try.func92, Try.ntmps92
    go_wp2_with fail
    go_ret
    exact ⟨ret_bool HD.out.symm, rfl⟩
set_option maxRecDepth 100000 in
set_option maxHeartbeats 1000000 in
theorem waiting_all (B hi g : Nat) (D : DD) (w : World) (h : DAt X B hi w g D) (few : D.ts.length ≤ 1048576) :
    Calls Try.prog 69 #[.pointer (some ⟨g, 0, none⟩), .func (.func 70) #[] #[]] w fun e w' => ∃ r, e = .returned r ∧ New64 w w' r (dwaitOf D.ts (fun _ => true)) ∧ Keep No w w' := by
  have H := Lib.hid h
  clear h
  go_enter Try.func69, Try.ntmps69
  go_wp2_with fail
  go_loopw [4, 5] (fun ov iv wr => ∃ i A2 k, i ≤ D.ts.length ∧ iv = .int .u64 ((i : Int) + 1) ∧ ov = .slice A2 (waitsTo D.ts (fun _ => true) i).length k ∧
    wr.ownsRow 0 29 1 (.slice A2 (waitsTo D.ts (fun _ => true) i).length k) (waitsTo D.ts (fun _ => true) i).length ((waitsTo D.ts (fun _ => true) i).map u64v) ∧ (∀ b, (Value.slice A2 (waitsTo D.ts (fun _ => true) i).length k).ownBlock = some b → w.heap.size ≤ b) ∧ Keep No w wr) (fun _ iv _ => D.ts.length + 1 - (intOf iv).toNat)
  case atStart => exact ⟨0, none, 0, Nat.zero_le _, rfl, rfl, World.ownsRow_nil _ _ _ _, fun b hb => by simp [Value.ownBlock] at hb, Keep.refl _ _⟩
  case round =>
    obtain ⟨i, A2, k, hi', rfl, rfl, ho, hA, hk⟩ := hrel
    have hlen := waitsTo_len D.ts (fun _ => true) i
    have hd := H.out.no hk
    obtain ⟨cs, hcs, -, -, hc5⟩ := hd.disk
    have c5 := (blk_cell hcs 5).trans hc5
    clear hcs hc5
    by_cases hlt : i < D.ts.length
    · obtain ⟨M, f, tb, l1, l2, c4, hm, hf, -, ht, -⟩ := hd.task i hlt
      obtain ⟨-, -, A, kk, W, tcell, -⟩ := ht
      have t0 := (blk_cell tcell 0).trans rfl
      have t1 := (blk_cell tcell 1).trans rfl
      have t3 := (blk_cell tcell 3).trans rfl
      have HM := Lib.hid hm
      have HF := Lib.hid hf
      have hw1 := IntWalk.u64_in ((i : Int) + 1 + 1) (by omega)
      have hidl : i + 1 < 18446744073709551616 := by omega
      have hle : decide ((i : Int) + 1 ≤ (D.ts.length : Int)) = true := by simp; omega
      have hsay : Calls Try.prog 70 #[.pointer (some ⟨tb, 0, none⟩)] wr fun e w' => e = .returned (.bool ((fun _ => true) D.ts[i])) ∧ wr = w' := says_true (.pointer (some ⟨tb, 0, none⟩)) wr
      have HSAY := Lib.hid hsay
      have hhit := waitsTo_hit D.ts (fun _ => true) i hlt
      have hmiss := waitsTo_miss D.ts (fun _ => true) i hlt
      clear hm hf tcell hd hsay
      by_cases hst : D.ts[i].state = 1
      · rw [hst] at t3
        cases hp : (fun _ => true) D.ts[i]
        · rw [hp] at HSAY
          have hT := Lib.hid (hmiss (fun ⟨_, e⟩ => Bool.noConfusion (hp.symm.trans e)))
          clear hhit hmiss hp hst
          go_wp2_with (at_lookup; refine wpList_lookP _ rfl _ _ rfl M _ f rfl HM.out (i + 1) hidl rfl (some tb) HF.out ?_; show wpList _ _ _ _ (Act.put _ _ (Value.pointer (some ⟨tb, 0, none⟩))) _)
          refine HSAY.out.mono ?_
          rintro e w2 ⟨rfl, rfl⟩
          go_wp2_with fail
          refine ⟨⟨i + 1, A2, k, by omega, by simp, by rw [hT.out], by rw [hT.out]; exact ho, by rw [hT.out]; exact hA, hk⟩, by simp [intOf]; omega⟩
        · rw [hp] at HSAY
          have hT := Lib.hid (hhit hst hp)
          clear hhit hmiss hp hst
          generalize waitsTo D.ts (fun _ => true) i = L at *
          have hwn : (wr.alloc (.cells #[.int .u64 ((i : Int) + 1)] 29)).ownsRow 0 29 1 (.slice A2 L.length k) L.length (L.map u64v) := ho.alloc _
          have hso : Sl (wr.alloc (.cells #[.int .u64 ((i : Int) + 1)] 29)) (.slice (some ⟨wr.heap.size, 0, none⟩) 1 1) 1 ([i + 1].map u64v) := Sl.lit _ #[.int .u64 ((i : Int) + 1)] 29 1
          have hone := u64v_one [i + 1]
          have h63 : L.length + 1 ≤ maxLen := by simp only [maxLen]; omega
          have kn : Keep No w (wr.alloc (.cells #[.int .u64 ((i : Int) + 1)] 29)) := hk.alloc _
          go_wp2_with (at_lookup; refine wpList_lookP _ rfl _ _ rfl M _ f rfl HM.out (i + 1) hidl rfl (some tb) HF.out ?_; show wpList _ _ _ _ (Act.put _ _ (Value.pointer (some ⟨tb, 0, none⟩))) _)
          refine HSAY.out.mono ?_
          rintro e w2 ⟨rfl, rfl⟩
          go_wp2_with (at_builtin; refine wpList_app rfl _ _ 41 rfl 29 _ 1 8 Try.underlying41 Try.info29 rfl (by decide) _ L.length _ hwn rfl _ 1 ([i + 1].map u64v) hso rfl rfl hone (by omega) h63 ?_; intro A' k' w' ho' hk' hn')
          refine ⟨⟨i + 1, A', k', by omega, by simp, by rw [hT.out]; simp, ?_, ?_, kn.fresh hk' hA⟩, by simp [intOf]; omega⟩
          · rw [hT.out, List.length_append, List.map_append]; exact ho'
          · intro b hb
            rw [hT.out, List.length_append] at hb
            rcases hn' b hb with e | e
            · exact hA b e
            · have := kn.size; omega
      · have hs2 : ((D.ts[i].state : Int) == 1) = false := beq_eq_false_iff_ne.2 (by omega)
        have hT := Lib.hid (hmiss (fun ⟨e, _⟩ => hst e))
        clear hhit hmiss hst
        go_wp2_with (at_lookup; refine wpList_lookP _ rfl _ _ rfl M _ f rfl HM.out (i + 1) hidl rfl (some tb) HF.out ?_; show wpList _ _ _ _ (Act.put _ _ (Value.pointer (some ⟨tb, 0, none⟩))) _)
        refine ⟨⟨i + 1, A2, k, by omega, by simp, by rw [hT.out], by rw [hT.out]; exact ho, by rw [hT.out]; exact hA, hk⟩, by simp [intOf]; omega⟩
    · obtain rfl : i = D.ts.length := by omega
      have hle : decide ((D.ts.length : Int) + 1 ≤ (D.ts.length : Int)) = false := by simp; omega
      go_wp2_with fail
      go_ret
      exact ⟨_, rfl, ⟨A2, k, rfl, ho, hA⟩, hk⟩
set_option maxRecDepth 100000 in
set_option maxHeartbeats 1000000 in
theorem waiting_writes (B hi g : Nat) (D : DD) (w : World) (h : DAt X B hi w g D) (few : D.ts.length ≤ 1048576) :
    Calls Try.prog 69 #[.pointer (some ⟨g, 0, none⟩), .func (.func 72) #[] #[]] w fun e w' => ∃ r, e = .returned r ∧ New64 w w' r (dwaitOf D.ts (fun t => t.write)) ∧ Keep No w w' := by
  have H := Lib.hid h
  clear h
  go_enter Try.func69, Try.ntmps69
  go_wp2_with fail
  go_loopw [4, 5] (fun ov iv wr => ∃ i A2 k, i ≤ D.ts.length ∧ iv = .int .u64 ((i : Int) + 1) ∧ ov = .slice A2 (waitsTo D.ts (fun t => t.write) i).length k ∧
    wr.ownsRow 0 29 1 (.slice A2 (waitsTo D.ts (fun t => t.write) i).length k) (waitsTo D.ts (fun t => t.write) i).length ((waitsTo D.ts (fun t => t.write) i).map u64v) ∧ (∀ b, (Value.slice A2 (waitsTo D.ts (fun t => t.write) i).length k).ownBlock = some b → w.heap.size ≤ b) ∧ Keep No w wr) (fun _ iv _ => D.ts.length + 1 - (intOf iv).toNat)
  case atStart => exact ⟨0, none, 0, Nat.zero_le _, rfl, rfl, World.ownsRow_nil _ _ _ _, fun b hb => by simp [Value.ownBlock] at hb, Keep.refl _ _⟩
  case round =>
    obtain ⟨i, A2, k, hi', rfl, rfl, ho, hA, hk⟩ := hrel
    have hlen := waitsTo_len D.ts (fun t => t.write) i
    have hd := H.out.no hk
    obtain ⟨cs, hcs, -, -, hc5⟩ := hd.disk
    have c5 := (blk_cell hcs 5).trans hc5
    clear hcs hc5
    by_cases hlt : i < D.ts.length
    · obtain ⟨M, f, tb, l1, l2, c4, hm, hf, -, ht, -⟩ := hd.task i hlt
      obtain ⟨-, -, A, kk, W, tcell, -⟩ := ht
      have t0 := (blk_cell tcell 0).trans rfl
      have t1 := (blk_cell tcell 1).trans rfl
      have t3 := (blk_cell tcell 3).trans rfl
      have HM := Lib.hid hm
      have HF := Lib.hid hf
      have hw1 := IntWalk.u64_in ((i : Int) + 1 + 1) (by omega)
      have hidl : i + 1 < 18446744073709551616 := by omega
      have hle : decide ((i : Int) + 1 ≤ (D.ts.length : Int)) = true := by simp; omega
      have hsay : Calls Try.prog 72 #[.pointer (some ⟨tb, 0, none⟩)] wr fun e w' => e = .returned (.bool ((fun t => t.write) D.ts[i])) ∧ wr = w' := says_write tb _ wr t1
      have HSAY := Lib.hid hsay
      have hhit := waitsTo_hit D.ts (fun t => t.write) i hlt
      have hmiss := waitsTo_miss D.ts (fun t => t.write) i hlt
      clear hm hf tcell hd hsay
      by_cases hst : D.ts[i].state = 1
      · rw [hst] at t3
        cases hp : (fun t => t.write) D.ts[i]
        · rw [hp] at HSAY
          have hT := Lib.hid (hmiss (fun ⟨_, e⟩ => Bool.noConfusion (hp.symm.trans e)))
          clear hhit hmiss hp hst
          go_wp2_with (at_lookup; refine wpList_lookP _ rfl _ _ rfl M _ f rfl HM.out (i + 1) hidl rfl (some tb) HF.out ?_; show wpList _ _ _ _ (Act.put _ _ (Value.pointer (some ⟨tb, 0, none⟩))) _)
          refine HSAY.out.mono ?_
          rintro e w2 ⟨rfl, rfl⟩
          go_wp2_with fail
          refine ⟨⟨i + 1, A2, k, by omega, by simp, by rw [hT.out], by rw [hT.out]; exact ho, by rw [hT.out]; exact hA, hk⟩, by simp [intOf]; omega⟩
        · rw [hp] at HSAY
          have hT := Lib.hid (hhit hst hp)
          clear hhit hmiss hp hst
          generalize waitsTo D.ts (fun t => t.write) i = L at *
          have hwn : (wr.alloc (.cells #[.int .u64 ((i : Int) + 1)] 29)).ownsRow 0 29 1 (.slice A2 L.length k) L.length (L.map u64v) := ho.alloc _
          have hso : Sl (wr.alloc (.cells #[.int .u64 ((i : Int) + 1)] 29)) (.slice (some ⟨wr.heap.size, 0, none⟩) 1 1) 1 ([i + 1].map u64v) := Sl.lit _ #[.int .u64 ((i : Int) + 1)] 29 1
          have hone := u64v_one [i + 1]
          have h63 : L.length + 1 ≤ maxLen := by simp only [maxLen]; omega
          have kn : Keep No w (wr.alloc (.cells #[.int .u64 ((i : Int) + 1)] 29)) := hk.alloc _
          go_wp2_with (at_lookup; refine wpList_lookP _ rfl _ _ rfl M _ f rfl HM.out (i + 1) hidl rfl (some tb) HF.out ?_; show wpList _ _ _ _ (Act.put _ _ (Value.pointer (some ⟨tb, 0, none⟩))) _)
          refine HSAY.out.mono ?_
          rintro e w2 ⟨rfl, rfl⟩
          go_wp2_with (at_builtin; refine wpList_app rfl _ _ 41 rfl 29 _ 1 8 Try.underlying41 Try.info29 rfl (by decide) _ L.length _ hwn rfl _ 1 ([i + 1].map u64v) hso rfl rfl hone (by omega) h63 ?_; intro A' k' w' ho' hk' hn')
          refine ⟨⟨i + 1, A', k', by omega, by simp, by rw [hT.out]; simp, ?_, ?_, kn.fresh hk' hA⟩, by simp [intOf]; omega⟩
          · rw [hT.out, List.length_append, List.map_append]; exact ho'
          · intro b hb
            rw [hT.out, List.length_append] at hb
            rcases hn' b hb with e | e
            · exact hA b e
            · have := kn.size; omega
      · have hs2 : ((D.ts[i].state : Int) == 1) = false := beq_eq_false_iff_ne.2 (by omega)
        have hT := Lib.hid (hmiss (fun ⟨e, _⟩ => hst e))
        clear hhit hmiss hst
        go_wp2_with (at_lookup; refine wpList_lookP _ rfl _ _ rfl M _ f rfl HM.out (i + 1) hidl rfl (some tb) HF.out ?_; show wpList _ _ _ _ (Act.put _ _ (Value.pointer (some ⟨tb, 0, none⟩))) _)
        refine ⟨⟨i + 1, A2, k, by omega, by simp, by rw [hT.out], by rw [hT.out]; exact ho, by rw [hT.out]; exact hA, hk⟩, by simp [intOf]; omega⟩
    · obtain rfl : i = D.ts.length := by omega
      have hle : decide ((D.ts.length : Int) + 1 ≤ (D.ts.length : Int)) = false := by simp; omega
      go_wp2_with fail
      go_ret
      exact ⟨_, rfl, ⟨A2, k, rfl, ho, hA⟩, hk⟩
set_option maxRecDepth 100000 in
set_option maxHeartbeats 1000000 in
theorem waiting_flushes (B hi g : Nat) (D : DD) (w : World) (h : DAt X B hi w g D) (few : D.ts.length ≤ 1048576) :
    Calls Try.prog 69 #[.pointer (some ⟨g, 0, none⟩), .func (.func 92) #[] #[]] w fun e w' => ∃ r, e = .returned r ∧ New64 w w' r (dwaitOf D.ts (fun t => t.parts.length == 0)) ∧ Keep No w w' := by
  have H := Lib.hid h
  clear h
  go_enter Try.func69, Try.ntmps69
  go_wp2_with fail
  go_loopw [4, 5] (fun ov iv wr => ∃ i A2 k, i ≤ D.ts.length ∧ iv = .int .u64 ((i : Int) + 1) ∧ ov = .slice A2 (waitsTo D.ts (fun t => t.parts.length == 0) i).length k ∧
    wr.ownsRow 0 29 1 (.slice A2 (waitsTo D.ts (fun t => t.parts.length == 0) i).length k) (waitsTo D.ts (fun t => t.parts.length == 0) i).length ((waitsTo D.ts (fun t => t.parts.length == 0) i).map u64v) ∧ (∀ b, (Value.slice A2 (waitsTo D.ts (fun t => t.parts.length == 0) i).length k).ownBlock = some b → w.heap.size ≤ b) ∧ Keep No w wr) (fun _ iv _ => D.ts.length + 1 - (intOf iv).toNat)
  case atStart => exact ⟨0, none, 0, Nat.zero_le _, rfl, rfl, World.ownsRow_nil _ _ _ _, fun b hb => by simp [Value.ownBlock] at hb, Keep.refl _ _⟩
  case round =>
    obtain ⟨i, A2, k, hi', rfl, rfl, ho, hA, hk⟩ := hrel
    have hlen := waitsTo_len D.ts (fun t => t.parts.length == 0) i
    have hd := H.out.no hk
    obtain ⟨cs, hcs, -, -, hc5⟩ := hd.disk
    have c5 := (blk_cell hcs 5).trans hc5
    clear hcs hc5
    by_cases hlt : i < D.ts.length
    · obtain ⟨M, f, tb, l1, l2, c4, hm, hf, -, ht, -⟩ := hd.task i hlt
      obtain ⟨-, -, A, kk, W, tcell, -⟩ := ht
      have t0 := (blk_cell tcell 0).trans rfl
      have t1 := (blk_cell tcell 1).trans rfl
      have t3 := (blk_cell tcell 3).trans rfl
      have HM := Lib.hid hm
      have HF := Lib.hid hf
      have hw1 := IntWalk.u64_in ((i : Int) + 1 + 1) (by omega)
      have hidl : i + 1 < 18446744073709551616 := by omega
      have hle : decide ((i : Int) + 1 ≤ (D.ts.length : Int)) = true := by simp; omega
      have hsay : Calls Try.prog 92 #[.pointer (some ⟨tb, 0, none⟩)] wr fun e w' => e = .returned (.bool ((fun t => t.parts.length == 0) D.ts[i])) ∧ wr = w' := says_none tb _ _ _ wr t0
      have HSAY := Lib.hid hsay
      have hhit := waitsTo_hit D.ts (fun t => t.parts.length == 0) i hlt
      have hmiss := waitsTo_miss D.ts (fun t => t.parts.length == 0) i hlt
      clear hm hf tcell hd hsay
      by_cases hst : D.ts[i].state = 1
      · rw [hst] at t3
        cases hp : (fun t => t.parts.length == 0) D.ts[i]
        · rw [hp] at HSAY
          have hT := Lib.hid (hmiss (fun ⟨_, e⟩ => Bool.noConfusion (hp.symm.trans e)))
          clear hhit hmiss hp hst
          go_wp2_with (at_lookup; refine wpList_lookP _ rfl _ _ rfl M _ f rfl HM.out (i + 1) hidl rfl (some tb) HF.out ?_; show wpList _ _ _ _ (Act.put _ _ (Value.pointer (some ⟨tb, 0, none⟩))) _)
          refine HSAY.out.mono ?_
          rintro e w2 ⟨rfl, rfl⟩
          go_wp2_with fail
          refine ⟨⟨i + 1, A2, k, by omega, by simp, by rw [hT.out], by rw [hT.out]; exact ho, by rw [hT.out]; exact hA, hk⟩, by simp [intOf]; omega⟩
        · rw [hp] at HSAY
          have hT := Lib.hid (hhit hst hp)
          clear hhit hmiss hp hst
          generalize waitsTo D.ts (fun t => t.parts.length == 0) i = L at *
          have hwn : (wr.alloc (.cells #[.int .u64 ((i : Int) + 1)] 29)).ownsRow 0 29 1 (.slice A2 L.length k) L.length (L.map u64v) := ho.alloc _
          have hso : Sl (wr.alloc (.cells #[.int .u64 ((i : Int) + 1)] 29)) (.slice (some ⟨wr.heap.size, 0, none⟩) 1 1) 1 ([i + 1].map u64v) := Sl.lit _ #[.int .u64 ((i : Int) + 1)] 29 1
          have hone := u64v_one [i + 1]
          have h63 : L.length + 1 ≤ maxLen := by simp only [maxLen]; omega
          have kn : Keep No w (wr.alloc (.cells #[.int .u64 ((i : Int) + 1)] 29)) := hk.alloc _
          go_wp2_with (at_lookup; refine wpList_lookP _ rfl _ _ rfl M _ f rfl HM.out (i + 1) hidl rfl (some tb) HF.out ?_; show wpList _ _ _ _ (Act.put _ _ (Value.pointer (some ⟨tb, 0, none⟩))) _)
          refine HSAY.out.mono ?_
          rintro e w2 ⟨rfl, rfl⟩
          go_wp2_with (at_builtin; refine wpList_app rfl _ _ 41 rfl 29 _ 1 8 Try.underlying41 Try.info29 rfl (by decide) _ L.length _ hwn rfl _ 1 ([i + 1].map u64v) hso rfl rfl hone (by omega) h63 ?_; intro A' k' w' ho' hk' hn')
          refine ⟨⟨i + 1, A', k', by omega, by simp, by rw [hT.out]; simp, ?_, ?_, kn.fresh hk' hA⟩, by simp [intOf]; omega⟩
          · rw [hT.out, List.length_append, List.map_append]; exact ho'
          · intro b hb
            rw [hT.out, List.length_append] at hb
            rcases hn' b hb with e | e
            · exact hA b e
            · have := kn.size; omega
      · have hs2 : ((D.ts[i].state : Int) == 1) = false := beq_eq_false_iff_ne.2 (by omega)
        have hT := Lib.hid (hmiss (fun ⟨e, _⟩ => hst e))
        clear hhit hmiss hst
        go_wp2_with (at_lookup; refine wpList_lookP _ rfl _ _ rfl M _ f rfl HM.out (i + 1) hidl rfl (some tb) HF.out ?_; show wpList _ _ _ _ (Act.put _ _ (Value.pointer (some ⟨tb, 0, none⟩))) _)
        refine ⟨⟨i + 1, A2, k, by omega, by simp, by rw [hT.out], by rw [hT.out]; exact ho, by rw [hT.out]; exact hA, hk⟩, by simp [intOf]; omega⟩
    · obtain rfl : i = D.ts.length := by omega
      have hle : decide ((D.ts.length : Int) + 1 ≤ (D.ts.length : Int)) = false := by simp; omega
      go_wp2_with fail
      go_ret
      exact ⟨_, rfl, ⟨A2, k, rfl, ho, hA⟩, hk⟩
end Go.Proofs.Ytimdaioojnohmaa
