/-
  (*Disk).flushes walked.
-/
import Derived.Test.YtimdaioojnohmaaMDWait
namespace Go.Proofs.Ytimdaioojnohmaa
open Go.RowKit Go.Maps
variable {X : Nat → Prop}

/-- Whom a flush waits for is there. -/
def WOk (D : DD) : Prop := ∀ i, (D.ts.getD i default).wants.length ≤ D.ts.length ∧ ∀ k ∈ (D.ts.getD i default).wants, 1 ≤ k ∧ k ≤ D.ts.length
theorem dend_len (D : DD) (id : Nat) : (dend D id).ts.length = D.ts.length := by simp [dend]
theorem getD_set {α : Type} (l : List α) (n i : Nat) (x d : α) : (l.set n x).getD i d = if n = i ∧ n < l.length then x else l.getD i d := by
  rw [List.getD_eq_getElem?_getD, List.getElem?_set, List.getD_eq_getElem?_getD]
  by_cases h : n = i
  · subst h
    by_cases h2 : n < l.length
    · simp [h2]
    · simp [h2]
  · simp [h]
theorem dend_wants (D : DD) (id i : Nat) : ((dend D id).ts.getD i default).wants = (D.ts.getD i default).wants := by
  unfold dend
  simp only [getD_set]
  split
  · rename_i h
    rw [h.1]
  · rfl
theorem WOk.dend {D : DD} (h : WOk D) (id : Nat) : WOk (dend D id) := fun i => by
  rw [dend_wants, dend_len]
  exact h i

theorem bne_two (n : Nat) : ((n : Int) != 2) = !(n == 2) := by
  by_cases h : n = 2
  · subst h; rfl
  · rw [beq_eq_false_iff_ne.2 h]
    simp only [bne, Bool.not_false]
    rw [beq_eq_false_iff_ne.2 (by omega)]
    rfl
theorem open_any (B hi g bx id : Nat) (D : DD) (w : World) (h : DAt X B hi w g D) (hb : w.cell? ⟨bx, 0, none⟩ = some (.pointer (some ⟨g, 0, none⟩))) (h1 : 1 ≤ id) (h2 : id ≤ D.ts.length) (few : D.ts.length ≤ 1048576) :
    Calls Try.prog 91 #[.int .u64 (id : Nat), .pointer (some ⟨bx, 0, none⟩)] w fun e w' => e = .returned (.bool (!((D.ts.getD (id - 1) default).state == 2))) ∧ w = w' := by
  obtain ⟨i, rfl⟩ : ∃ i, id = i + 1 := ⟨id - 1, by omega⟩
  have hil : i < D.ts.length := by omega
  obtain ⟨M, f, tb, l1, l2, c4, hm, hf, -, ht, -⟩ := h.task i hil
  obtain ⟨-, -, A, kk, W, tcell, -⟩ := ht
  have t3 := (blk_cell tcell 3).trans rfl
  have HM := Lib.hid hm
  have HF := Lib.hid hf
  have HD : Hid (D.ts.getD (i + 1 - 1) default = D.ts[i]) := by show _ = _; rw [Nat.add_sub_cancel, List.getD_eq_getElem?_getD, List.getElem?_eq_getElem hil]; rfl
  have hidl : i + 1 < 18446744073709551616 := by omega
  rw [HD.out]
  clear h hm hf tcell
  go_enter Try.func91, Try.ntmps91
  go_wp2_with (at_lookup; refine wpList_lookP _ rfl _ _ rfl M _ f rfl HM.out (i + 1) hidl rfl (some tb) HF.out ?_; show wpList _ _ _ _ (Act.put _ _ (Value.pointer (some ⟨tb, 0, none⟩))) _)
  go_ret
  exact ⟨ret_bool (bne_two _), rfl⟩

theorem indexf_any (v : Value) (l : List Nat) (bx : Nat) (p : Nat → Bool) (w : World) (h : N64 w v l) (hl : l.length ≤ 1048576)
    (hcl : ∀ x ∈ l, Calls Try.prog 91 #[.int .u64 (x : Nat), .pointer (some ⟨bx, 0, none⟩)] w fun e w' => e = .returned (.bool (p x)) ∧ w = w') : Calls Try.prog 96 #[v, .func (.func 91) #[] #[.pointer (some ⟨bx, 0, none⟩)]] w fun e w' =>
    (∃ r : Int, e = .returned (.int .i64 r) ∧ (0 ≤ r ↔ l.any p = true)) ∧ w = w' := by
  obtain ⟨A, c, rfl, -⟩ := Sl.shape h
  have H := Lib.hid h
  have HCL := Lib.hid hcl
  clear h hcl
  go_enter Try.func96, Try.ntmps96
  go_wp2_with fail
  go_loopw [8] (fun iv wr => ∃ i, i ≤ l.length ∧ iv = .int .i64 (i : Nat) ∧ Hid ((l.take i).any p = false) ∧ w = wr) (fun iv _ => l.length - (intOf iv).toNat)
  case atStart => exact ⟨0, Nat.zero_le _, rfl, rfl, rfl⟩
  case round =>
    obtain ⟨i, hi, rfl, hno, rfl⟩ := hrel
    by_cases hlt : i < l.length
    · obtain ⟨b, o, c', hv, hc', hcell⟩ := H.out.at_ i hlt
      injection hv with hA _ hcc
      subst hA hcc
      have hc := HCL.out l[i] (List.getElem_mem hlt)
      have HC := Lib.hid hc
      clear hc
      cases hp : p l[i]
      · rw [hp] at HC
        have HE : Hid ((l.take (i + 1)).any p = false) := by
          show _ = _
          rw [List.take_succ_eq_append_getElem hlt, List.any_append, hno.out]
          simp [hp]
        clear hp
        go_wp2_with fail
        refine HC.out.mono ?_
        rintro e w2 ⟨rfl, rfl⟩
        go_wp2_with fail
        exact ⟨⟨i + 1, by omega, by simp, HE, trivial⟩, by simp [intOf]; omega⟩
      · rw [hp] at HC
        have HE : Hid (l.any p = true) := by show _ = _; exact List.any_eq_true.2 ⟨l[i], List.getElem_mem hlt, hp⟩
        clear hp
        go_wp2_with fail
        refine HC.out.mono ?_
        rintro e w2 ⟨rfl, rfl⟩
        go_wp2_with fail
        go_ret
        exact ⟨⟨i, rfl, by simp [HE.out]⟩, rfl⟩
    · go_wp2_with fail
      go_ret
      refine ⟨⟨-1, rfl, ?_⟩, rfl⟩
      have := hno.out
      rw [List.take_of_length_le (by omega)] at this
      simp [this]
theorem containsf_any (v : Value) (l : List Nat) (bx : Nat) (p : Nat → Bool) (w : World) (h : N64 w v l) (hl : l.length ≤ 1048576)
    (hcl : ∀ x ∈ l, Calls Try.prog 91 #[.int .u64 (x : Nat), .pointer (some ⟨bx, 0, none⟩)] w fun e w' => e = .returned (.bool (p x)) ∧ w = w') : Calls Try.prog 93 #[v, .func (.func 91) #[] #[.pointer (some ⟨bx, 0, none⟩)]] w fun e w' =>
    e = .returned (.bool (l.any p)) ∧ w = w' := by
  have hc := indexf_any v l bx p w h hl hcl
  clear h hcl
  go_enter Try.func93, Try.ntmps93
  go_wp2_with fail
  refine hc.mono ?_
  rintro e w' ⟨⟨r, rfl, hr⟩, rfl⟩
  have HR := Lib.hid hr
  clear hr
  go_wp2_with fail
  go_ret
  refine ⟨ret_bool ?_, rfl⟩
  rw [Bool.eq_iff_iff, decide_eq_true_eq]
  exact HR.out

def fstep (D : DD) (id : Nat) : DD := if dready D id then dend D id else D
theorem fstep_len (D : DD) (id : Nat) : (fstep D id).ts.length = D.ts.length := by
  unfold fstep
  split
  · exact dend_len D id
  · rfl
theorem fstep_wok {D : DD} (h : WOk D) (id : Nat) : WOk (fstep D id) := by
  unfold fstep
  split
  · exact h.dend id
  · exact h
theorem dflushes_eq (D : DD) : dflushes D = (dwaitOf D.ts (fun t => t.parts.length == 0)).foldl fstep D := rfl
theorem dwait_range (ts : List DTask) (p : DTask → Bool) (x : Nat) (h : x ∈ dwaitOf ts p) : 1 ≤ x ∧ x ≤ ts.length := by
  unfold dwaitOf at h
  obtain ⟨i, hi, rfl⟩ := List.mem_map.1 h
  have := List.mem_range.1 (List.mem_filter.1 hi).1
  omega
theorem dwait_len (ts : List DTask) (p : DTask → Bool) : (dwaitOf ts p).length ≤ ts.length := waitsTo_len ts p ts.length
theorem getD_at {α : Type} [Inhabited α] (l : List α) (i : Nat) (h : i < l.length) : l.getD i default = l[i] := by
  rw [List.getD_eq_getElem?_getD, List.getElem?_eq_getElem h]; rfl

set_option maxRecDepth 100000 in
set_option maxHeartbeats 2000000 in
theorem flushes_any (B hi g : Nat) (D : DD) (w : World) (h : DAt X B hi w g D) (few : D.ts.length ≤ 1048576) (hwok : WOk D) :
    Calls Try.prog 74 #[.pointer (some ⟨g, 0, none⟩)] w fun e w' => (∃ v, e = .returned v) ∧ DAt X B hi w' g (dflushes D) ∧ KeepZ (TP X B) w w' := by
  have k0 : Keep No w (w.alloc (.cells #[.pointer (some ⟨g, 0, none⟩)] 44)) := (Keep.refl _ _).alloc _
  have hob := blk_at w (.cells #[.pointer (some ⟨g, 0, none⟩)] 44) rfl
  have HWT := Lib.hid (waiting_flushes B hi g D _ (h.no k0) few)
  have c0 := (blk_cell hob 0).trans rfl
  have H0 := Lib.hid (h.no k0)
  have HOB := Lib.hid hob
  have HWOK := Lib.hid hwok
  have hsz : w.heap.size < (w.alloc (.cells #[.pointer (some ⟨g, 0, none⟩)] 44)).heap.size := by rw [World.size_alloc]; omega
  rw [dflushes_eq]
  have hrange := dwait_range D.ts (fun t => t.parts.length == 0)
  have hlen := dwait_len D.ts (fun t => t.parts.length == 0)
  have HRANGE := Lib.hid hrange
  clear hrange
  generalize dwaitOf D.ts (fun t => t.parts.length == 0) = ids at *
  clear h hob hwok
  go_enter Try.func74, Try.ntmps74
  go_wp2_with fail
  refine HWT.out.mono ?_
  rintro e w1 ⟨r, rfl, hr, k1⟩
  have hr1 := hr.n64
  have hr29 := hr.r29
  clear hr
  obtain ⟨A, cc, rfl, -⟩ := Sl.shape hr1
  have HR29 := Lib.hid hr29
  have H1 := Lib.hid (H0.out.no k1)
  have HOB1 := Lib.hid (k1.blk HOB.out (fun h => h))
  clear hr1 hr29
  go_wp2_with fail
  go_loopw [9] (fun iv wr => ∃ i D', i ≤ ids.length ∧ iv = .int .i64 (i : Nat) ∧ Hid (D' = (ids.take i).foldl fstep D) ∧ Hid (DAt X B hi wr g D') ∧ Hid (WOk D') ∧ D'.ts.length = D.ts.length ∧ KeepZ (TP X B) w1 wr) (fun iv _ => ids.length - (intOf iv).toNat)
  case atStart => exact ⟨0, D, Nat.zero_le _, rfl, rfl, H1, HWOK, rfl, KeepZ.refl _ _⟩
  case round =>
    obtain ⟨i, D', hi', rfl, hD', hd, hwok', hlen', hk⟩ := hrel
    have noTP : ∀ k s, s = some 44 ∨ s = some 29 → ¬ TP X B k s := fun k s e ⟨_, h⟩ => by
      rcases e with rfl | rfl <;> rcases h with h | h | h | h | h | h <;> simp at h
    by_cases hlt : i < ids.length
    · have hr2 : R29 wr (.slice A ids.length cc) ids := HR29.out.keepZ hk (fun k => noTP k _ (.inr rfl))
      obtain ⟨b, o, c', hv, hc', hcell⟩ := hr2.n64.at_ i hlt
      injection hv with hAA _ hcc
      subst hAA hcc
      have hob3 := hk.blk HOB1.out (noTP _ _ (.inl rfl))
      have c03 := (blk_cell hob3 0).trans rfl
      have hidr := HRANGE.out ids[i] (List.getElem_mem hlt)
      have htake : (ids.take (i + 1)).foldl fstep D = fstep D' ids[i] := by
        rw [List.take_succ_eq_append_getElem hlt, List.foldl_append, ← hD'.out]; rfl
      have HTAKE := Lib.hid htake
      clear htake hr2 hob3
      generalize ids[i] = id at *
      obtain ⟨n, rfl⟩ : ∃ n, id = n + 1 := ⟨id - 1, by omega⟩
      have hnl : n < D'.ts.length := by omega
      obtain ⟨M, f, tb, l1, l2, c4, hm, hf, -, ht, -⟩ := hd.out.task n hnl
      obtain ⟨-, -, AA, kk, W, tcell, -, -, hw⟩ := ht
      obtain ⟨⟨AW, kW, rfl, how⟩, -⟩ := hw
      have t2 := (blk_cell tcell 2).trans rfl
      have HM := Lib.hid hm
      have HF := Lib.hid hf
      have hidl : n + 1 < 18446744073709551616 := by omega
      have hwl := hwok'.out n
      rw [getD_at _ n hnl] at hwl
      have hcf := containsf_any (.slice AW D'.ts[n].wants.length kW) D'.ts[n].wants w.heap.size (fun k => !((D'.ts.getD (k - 1) default).state == 2)) wr (Sl.of_own how) (by have := hwl.1; omega)
        (fun x hx => open_any B hi g w.heap.size x D' wr hd.out c03 (hwl.2 x hx).1 (hwl.2 x hx).2 (by omega))
      have hrd : dready D' (n + 1) = !(D'.ts[n].wants.any (fun k => !((D'.ts.getD (k - 1) default).state == 2))) := by
        unfold dready
        rw [Nat.add_sub_cancel, getD_at _ n hnl]
      have HCF := Lib.hid hcf
      have HRD := Lib.hid hrd
      clear hcf hrd hm hf tcell how hwl
      generalize D'.ts[n].wants.any (fun k => !((D'.ts.getD (k - 1) default).state == 2)) = bb at *
      go_wp2_with (at_lookup; refine wpList_lookP _ rfl _ _ rfl M _ f rfl HM.out (n + 1) hidl rfl (some tb) HF.out ?_; show wpList _ _ _ _ (Act.put _ _ (Value.pointer (some ⟨tb, 0, none⟩))) _)
      refine HCF.out.mono ?_
      rintro e w2 ⟨rfl, rfl⟩
      cases bb
      · have HE := Lib.hid (dend_any B hi g n D' wr hd.out hnl (by omega))
        have hstep : fstep D' (n + 1) = dend D' (n + 1) := by unfold fstep; rw [HRD.out]; rfl
        have HSTEP := Lib.hid hstep
        clear hstep
        go_wp2_with fail
        refine HE.out.mono ?_
        rintro e w3 ⟨⟨v, rfl⟩, hd3, hk3⟩
        have HD3 := Lib.hid hd3
        clear hd3
        go_wp2_with fail
        exact ⟨⟨i + 1, dend D' (n + 1), by omega, by simp, (HTAKE.out.trans HSTEP.out).symm, HD3, hwok'.out.dend _, by rw [dend_len]; exact hlen', hk.trans hk3⟩, by simp [intOf]; omega⟩
      · have hstep : fstep D' (n + 1) = D' := by unfold fstep; rw [HRD.out]; rfl
        have HSTEP := Lib.hid hstep
        clear hstep
        go_wp2_with fail
        exact ⟨⟨i + 1, D', by omega, by simp, (HTAKE.out.trans HSTEP.out).symm, hd, hwok', hlen', hk⟩, by simp [intOf]; omega⟩
    · obtain rfl : i = ids.length := by omega
      have hD2 := hD'.out
      rw [List.take_length] at hD2
      have HD2 := Lib.hid hD2
      clear hD2
      go_wp2_with fail
      go_end0
      refine ⟨⟨_, rfl⟩, by rw [← HD2.out]; exact hd.out, ((KeepZ.of k0).then k1).trans hk⟩
end Go.Proofs.Ytimdaioojnohmaa
