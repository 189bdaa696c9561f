/-
  (*Disk).Told walked.
-/
import Derived.Test.YtimdaioojnohmaaMDOut
namespace Go.Proofs.Ytimdaioojnohmaa
open Go.RowKit Go.Maps
variable {X : Nat → Prop}

/-- A cell of what is one's own is written. -/
theorem own_set {w : World} {base : Nat} {e : TypeId} {size g n cap : Nat} {xs : List Value} (h : w.ownsRow base e size (.slice (some ⟨g, 0, none⟩) n cap) n xs) (i : Nat) (u : Value) :
    (w.setCell ⟨g, i, none⟩ u).ownsRow base e size (.slice (some ⟨g, 0, none⟩) n cap) n (xs.set i u) := by
  refine ⟨by rw [List.length_set]; exact h.1, ?_⟩
  rcases h.2 with ⟨hv, _⟩ | ⟨g', cap', cur, hv, hb, hg, hc, hm, hs, ht⟩
  · cases hv
  · injection hv with hA _ hcc
    injection hA with hA
    injection hA with hgg
    subst hgg hcc
    refine .inr ⟨g, cap, cur.setIfInBounds i u, rfl, hb, blk_set hg i u, hc, hm, by simpa using hs, ?_⟩
    rw [Array.toList_setIfInBounds, List.take_set, ht]
theorem dcells_told (l : List DPart) (k : Nat) (s : ByteArray) (hk : k < l.length) :
    (l.set k { l[k] with told := true, got := s }).flatMap dcells = ((l.flatMap dcells).set (k * 9 + 7) (.bool true)).set (k * 9 + 8) (.string s) := by
  induction l generalizing k with
  | nil => simp at hk
  | cons y l ih =>
    cases k with
    | zero => simp [dcells, acells]
    | succ k =>
      rw [List.set_cons_succ, List.flatMap_cons, List.flatMap_cons]
      have h1 : (k + 1) * 9 + 7 = (dcells y).length + (k * 9 + 7) := by rw [dcells_len]; omega
      have h2 : (k + 1) * 9 + 8 = (dcells y).length + (k * 9 + 8) := by rw [dcells_len]; omega
      rw [h1, h2, List.set_append_right (h := by omega), List.set_append_right (h := by omega)]
      simp only [Nat.add_sub_cancel_left]
      rw [← ih k (by simpa using hk)]
      rfl
/-- A part of a task is told. -/
def ttold (t : DTask) (k : Nat) (s : ByteArray) : DTask := { t with parts := t.parts.set k { t.parts.getD k default with told := true, got := s } }
theorem TAt.told {w : World} {l1 l2 tb : Nat} {t : DTask} (h : TAt X w l1 l2 tb t) (k : Nat) (hk : k < t.parts.length) (s : ByteArray) : ∃ g c W, w.heap[tb]? = some (.cells #[.slice (some ⟨g, 0, none⟩) t.parts.length c, .bool t.write, W, .int .i64 (t.state : Nat)] 143 (0, 0)) ∧ t.parts.length ≤ c ∧ (∃ cs, w.heap[g]? = some (.cells cs 145 (0, 0))) ∧
    TAt X ((w.setCell ⟨g, k * 9 + 7, none⟩ (.bool true)).setCell ⟨g, k * 9 + 8, none⟩ (.string s)) l1 l2 tb (ttold t k s) ∧ KeepZ (TT l1 l2) w ((w.setCell ⟨g, k * 9 + 7, none⟩ (.bool true)).setCell ⟨g, k * 9 + 8, none⟩ (.string s)) ∧
    ((w.setCell ⟨g, k * 9 + 7, none⟩ (.bool true)).setCell ⟨g, k * 9 + 8, none⟩ (.string s)).heap[tb]? = some (.cells #[.slice (some ⟨g, 0, none⟩) t.parts.length c, .bool t.write, W, .int .i64 (t.state : Nat)] 143 (0, 0)) ∧
    D145 ((w.setCell ⟨g, k * 9 + 7, none⟩ (.bool true)).setCell ⟨g, k * 9 + 8, none⟩ (.string s)) (.slice (some ⟨g, 0, none⟩) t.parts.length c) (ttold t k s).parts := by
  obtain ⟨h1, h2, A, c, W, hb, ho, hin, hw⟩ := h
  have ho' := ho
  rcases ho.2 with ⟨hv, h0⟩ | ⟨g, cap, cur, hv, _, hg, hc, _⟩
  · omega
  · injection hv with hA _ hcc
    subst hA hcc
    have hgi := hin g rfl
    have hk1 : KeepZ (TT g (g + 1)) w (w.setCell ⟨g, k * 9 + 7, none⟩ (.bool true)) := (KeepZ.refl _ w).setCell (p := ⟨g, k * 9 + 7, none⟩) hg ⟨Nat.le_refl _, Nat.lt_succ_self _, .inr rfl⟩ _
    have hk2 : KeepZ (TT g (g + 1)) w ((w.setCell ⟨g, k * 9 + 7, none⟩ (.bool true)).setCell ⟨g, k * 9 + 8, none⟩ (.string s)) := hk1.setCell (p := ⟨g, k * 9 + 8, none⟩) (blk_set hg _ _) ⟨Nat.le_refl _, Nat.lt_succ_self _, .inr rfl⟩ _
    have hne : tb ≠ g := blk_ne hb hg (by decide)
    have hb3 := hk2.blk hb (fun ⟨a, b, _⟩ => hne (by omega))
    have hrow := own_set (own_set ho' (k * 9 + 7) (.bool true)) (k * 9 + 8) (.string s)
    rw [← dcells_told t.parts k s hk] at hrow
    have hpe : (ttold t k s).parts = t.parts.set k { t.parts[k] with told := true, got := s } := by simp only [ttold]; rw [getD_at _ k hk]
    have hpl : (ttold t k s).parts.length = t.parts.length := by rw [hpe, List.length_set]
    refine ⟨g, c, W, hb, hc, ⟨_, hg⟩, ⟨h1, h2, some ⟨g, 0, none⟩, c, W, ?_, ?_, ?_, hw.keepZ hk2 (fun k ⟨_, _, e⟩ => by rcases e with e | e <;> simp at e)⟩, hk2.mono (fun k s ⟨a, b, e⟩ => ⟨by omega, by omega, e⟩), hb3, ?_⟩
    · rw [hpl]
      exact hb3
    · rw [hpl, hpe]
      exact hrow
    · rw [hpl]
      exact hin
    · show Sl _ _ _ _
      rw [hpl, hpe]
      exact Sl.of_own hrow
theorem WOk.set {D : DD} (h : WOk D) (n : Nat) (t : DTask) (ht : t.wants = (D.ts.getD n default).wants) : WOk { D with ts := D.ts.set n t } := fun i => by
  simp only [List.length_set]
  rw [List.getD_eq_getElem?_getD, List.getElem?_set]
  by_cases e : n = i
  · subst e
    by_cases hl : n < D.ts.length
    · simp only [hl, if_true, Option.getD_some]
      rw [ht]
      exact h n
    · simp only [hl, if_true, if_false, Option.getD_none]
      exact ⟨Nat.zero_le _, fun k hk => by cases hk⟩
  · rw [if_neg e, ← List.getD_eq_getElem?_getD]
    exact h i

theorem dtold_no (D : DD) (id : Nat) (k : Int) (s : ByteArray) (h : id = 0 ∨ D.ts.length < id) : dtold D id k s = (40, D) := by
  unfold dtold
  rw [if_pos h]
theorem dtold_40 (D : DD) (n : Nat) (k : Int) (s : ByteArray) (hn : n < D.ts.length) (h : D.ts[n].state ≠ 1 ∨ k < 0 ∨ (D.ts[n].parts.length : Int) ≤ k) : dtold D (n + 1) k s = (40, D) := by
  unfold dtold
  rw [if_neg (by omega), Nat.add_sub_cancel, getD_at _ n hn]
  simp only
  rw [if_pos h]
theorem dtold_51 (D : DD) (n k : Nat) (s : ByteArray) (hn : n < D.ts.length) (h : D.ts[n].state = 1) (hk : k < D.ts[n].parts.length) (ht : D.ts[n].parts[k].told = true) : dtold D (n + 1) (k : Nat) s = (51, D) := by
  unfold dtold
  rw [if_neg (by omega), Nat.add_sub_cancel, getD_at _ n hn]
  simp only
  rw [if_neg (by omega), Int.toNat_natCast, getD_at _ k hk, if_pos ht]
theorem dtold_2 (D : DD) (n k : Nat) (s : ByteArray) (hn : n < D.ts.length) (h : D.ts[n].state = 1) (hk : k < D.ts[n].parts.length) (ht : D.ts[n].parts[k].told = false) (hw : D.ts[n].write = false) (hs : s.size ≠ 8 * D.ts[n].parts[k].cnt) : dtold D (n + 1) (k : Nat) s = (2, D) := by
  unfold dtold
  rw [if_neg (by omega), Nat.add_sub_cancel, getD_at _ n hn]
  simp only
  rw [if_neg (by omega), Int.toNat_natCast, getD_at _ k hk, if_neg (by simp [ht]), if_pos ⟨by simp [hw], hs⟩]
theorem dtold_ok (D : DD) (n k : Nat) (s : ByteArray) (hn : n < D.ts.length) (h : D.ts[n].state = 1) (hk : k < D.ts[n].parts.length) (ht : D.ts[n].parts[k].told = false) (hw : D.ts[n].write = true ∨ s.size = 8 * D.ts[n].parts[k].cnt) :
    dtold D (n + 1) (k : Nat) s = (0, if (ttold D.ts[n] k s).parts.any (fun p => !p.told) then { D with ts := D.ts.set n (ttold D.ts[n] k s) } else dflushes (dend { D with ts := D.ts.set n (ttold D.ts[n] k s) } (n + 1))) := by
  unfold dtold
  rw [if_neg (by omega), Nat.add_sub_cancel, getD_at _ n hn]
  simp only
  have hx : ¬ ((!D.ts[n].write) = true ∧ s.size ≠ 8 * D.ts[n].parts[k].cnt) := by
    rintro ⟨h1, h2⟩
    rcases hw with hw | hw
    · rw [hw] at h1; cases h1
    · exact h2 hw
  rw [if_neg (by omega), Int.toNat_natCast, getD_at _ k hk, if_neg (by simp [ht]), if_neg hx]
  unfold ttold
  rw [getD_at _ k hk]
  simp only
  split <;> rfl
set_option maxRecDepth 100000 in
set_option maxHeartbeats 2000000 in
theorem dtold_any (B hi g id : Nat) (k : Int) (s : ByteArray) (D : DD) (w : World) (h : DAt X B hi w g D) (hper : D.per ≠ 0) (few : D.ts.length ≤ 1048576) (hsm : DSm D) (hwok : WOk D) (hid : id < 18446744073709551616) :
    Calls Try.prog 34 #[.pointer (some ⟨g, 0, none⟩), .int .u64 (id : Nat), .int .i64 k, .string s] w fun e w' => e = .returned (.int .i64 ((dtold D id k s).1 : Nat)) ∧ DAt X B hi w' g (dtold D id k s).2 ∧ KeepZ (TP X B) w w' := by
  have HNO := Lib.hid (h.notnone hper)
  have H := Lib.hid h
  by_cases hno : id = 0 ∨ D.ts.length < id
  · rw [dtold_no D id k s hno]
    obtain ⟨M, f, c4, hm, hf⟩ := h.none_ id hno
    have HM := Lib.hid hm
    have HF := Lib.hid hf
    clear h hm hf hno
    go_enter Try.func34, Try.ntmps34
    go_wp2_with fail
    refine HNO.out.mono ?_
    rintro e w1 ⟨rfl, rfl⟩
    go_wp2_with (at_lookup; refine wpList_lookP _ rfl _ _ rfl M _ f rfl HM.out id hid rfl none HF.out ?_; show wpList _ _ _ _ (Act.put _ _ (Value.pointer none)) _)
    go_ret
    exact ⟨rfl, H.out, KeepZ.refl _ _⟩
  · obtain ⟨n, hn⟩ : ∃ n, id = n + 1 := ⟨id - 1, by omega⟩
    have hnl : n < D.ts.length := by omega
    obtain ⟨M, f, tb, l1, l2, c4, hm, hf, hBl, ht, hnext⟩ := h.task n hnl
    have hsm' := hsm D.ts[n] (List.getElem_mem hnl)
    have HT := Lib.hid ht
    obtain ⟨-, -, A, c, W, tcell, trow, -, -⟩ := ht
    have t0 := (blk_cell tcell 0).trans rfl
    have t1 := (blk_cell tcell 1).trans rfl
    have t3 := (blk_cell tcell 3).trans rfl
    have hf' : f id = some tb := by rw [hn]; exact hf
    have HM := Lib.hid hm
    have HF := Lib.hid hf'
    have hl64 : D.ts[n].parts.length ≤ 64 := hsm'.1
    clear hm hf hf' tcell
    by_cases hst : D.ts[n].state = 1
    · by_cases hk0 : k < 0
      · have hd := dtold_40 D n k s hnl (.inr (.inl hk0))
        rw [hn, hd, ← hn]
        rw [hst] at t3
        clear hst hd hn hnext hsm hsm' HT trow h
        go_enter Try.func34, Try.ntmps34
        go_wp2_with fail
        refine HNO.out.mono ?_
        rintro e w1 ⟨rfl, rfl⟩
        go_wp2_with (at_lookup; refine wpList_lookP _ rfl _ _ rfl M _ f rfl HM.out id hid rfl (some tb) HF.out ?_; show wpList _ _ _ _ (Act.put _ _ (Value.pointer (some ⟨tb, 0, none⟩))) _)
        go_ret
        exact ⟨rfl, H.out, KeepZ.refl _ _⟩
      · obtain ⟨kn, rfl⟩ := Int.eq_ofNat_of_zero_le (show 0 ≤ k by omega)
        by_cases hkl : kn < D.ts[n].parts.length
        · obtain ⟨g2, c2, W2, tcell2, hc2, ⟨cs2, hg2⟩, htold, hkz, htb3, hd145⟩ := HT.out.told kn hkl s
          have HTB3 := Lib.hid htb3
          have HD145 := Lib.hid hd145
          clear htb3 hd145
          have hdn := hnext _ _ htold hkz
          have HDN := Lib.hid hdn
          have HKZ := Lib.hid (hkz.mono (TT.tp (X := X) hBl))
          have HWT := Lib.hid (hwok.set n (ttold D.ts[n] kn s) (by rw [getD_at _ n hnl]; rfl))
          have HTOLD := Lib.hid htold
          have hA : A = some ⟨g2, 0, none⟩ ∧ c = c2 := by
            have e1 := (blk_cell tcell2 0).trans rfl
            rw [t0] at e1
            simp at e1
            exact ⟨e1.1, e1.2⟩
          obtain ⟨rfl, rfl⟩ := hA
          have hrow : D145 w (.slice (some ⟨g2, 0, none⟩) D.ts[n].parts.length c) D.ts[n].parts := Sl.of_own trow
          obtain ⟨b, o, c', hv, hc', x0, x1, x2, x3, x4, x5, x6, x7, x8⟩ := hrow.at_ kn hkl
          injection hv with hAA _ hcc
          injection hAA with hAA
          injection hAA with hb ho
          subst hb ho hcc
          rw [Nat.zero_add] at x4 x7 x8
          clear x0 x1 x2 x3 x5 x6 hrow hc' hdn hkz htold tcell2 hnext HT trow
          rw [hst] at t3
          have f7 := blk_free hg2 (kn * 9 + 7)
          have f8 := blk_free hg2 (kn * 9 + 8)
          have hcnt := (hsm'.2 D.ts[n].parts[kn] (List.getElem_mem hkl)).2
          have e1 : decide ((kn : Int) < 0) = false := by simp
          have e2 : decide (D.ts[n].parts.length ≤ kn) = false := by simp; omega
          have h51 := dtold_51 D n kn s hnl hst hkl
          have h2 := dtold_2 D n kn s hnl hst hkl
          have hok := dtold_ok D n kn s hnl hst hkl
          rw [← hn] at h51 h2 hok
          have hcw1 := IntWalk.i64_in (D.ts[n].parts[kn].cnt : Int) (by omega)
          have hcw2 := IntWalk.i64_in (8 * (D.ts[n].parts[kn].cnt : Int)) (by omega)
          cases ht : D.ts[n].parts[kn].told
          · by_cases hwi : D.ts[n].write = true ∨ s.size = 8 * D.ts[n].parts[kn].cnt
            · rw [hok ht hwi]
              rw [ht] at x7
              have HQ : (D.ts[n].write = true) ∨ (D.ts[n].write = false ∧ ((s.size : Int) != 8 * (D.ts[n].parts[kn].cnt : Int)) = false) := by
                cases hw : D.ts[n].write
                · refine .inr ⟨rfl, ?_⟩
                  rw [hw] at hwi
                  rw [bne_eq_false_iff_eq]
                  have := hwi.resolve_left (by simp)
                  omega
                · exact .inl rfl
              clear hwi h51 h2 hok ht
              obtain ⟨D2, hD2⟩ : ∃ D2 : DD, D2 = { D with ts := D.ts.set n (ttold D.ts[n] kn s) } := ⟨_, rfl⟩
              have hl2 : D2.ts.length = D.ts.length := by rw [hD2]; simp
              rw [← hD2] at HDN HWT ⊢
              obtain ⟨W3, hW3⟩ : ∃ W3, W3 = (w.setCell ⟨g2, kn * 9 + 7, none⟩ (.bool true)).setCell ⟨g2, kn * 9 + 8, none⟩ (.string s) := ⟨_, rfl⟩
              rw [← hW3] at HDN HKZ HTB3 HD145
              obtain ⟨parts2, hp2⟩ : ∃ parts2, parts2 = (ttold D.ts[n] kn s).parts := ⟨_, rfl⟩
              have hpl2 : parts2.length = D.ts[n].parts.length := by rw [hp2]; simp [ttold]
              rw [← hp2] at HD145 ⊢
              have HCP := Lib.hid (containsp_any (.slice (some ⟨g2, 0, none⟩) D.ts[n].parts.length c) parts2 W3 HD145.out (by omega))
              have HN := Lib.hid hn
              have HW3 := Lib.hid hW3
              have HL2 := Lib.hid hl2
              have t03 := (blk_cell HTB3.out 0).trans rfl
              clear hD2 hp2 hpl2 hW3 hl2 HD145 HTOLD hst hn hsm hsm' h hk0 HTB3
              generalize parts2.any (fun p => !p.told) = anyu at *
              generalize D.ts[n].parts[kn] = p at *
              generalize D.ts[n].parts.length = pl at *
              generalize p.cnt = cnt at *
              clear hcnt
              rcases HQ with hw | ⟨hw, hsz⟩
              all_goals
                rw [hw] at t1
                go_enter Try.func34, Try.ntmps34
                go_wp2_with fail
                refine HNO.out.mono ?_
                rintro e w1 ⟨rfl, rfl⟩
                go_upto_region 12 with (at_lookup; refine wpList_lookP _ rfl _ _ rfl M _ f rfl HM.out id hid rfl (some tb) HF.out ?_; show wpList _ _ _ _ (Act.put _ _ (Value.pointer (some ⟨tb, 0, none⟩))) _)
                rw [← HW3.out]
                clear t0 t1 t3 x4 x7 x8 f7 f8 c4 e1 e2
                go_wp2_with fail
                refine HCP.out.mono ?_
                rintro e w4 ⟨rfl, k4⟩
                have HD4 := Lib.hid (HDN.out.no k4)
                have HK4 := Lib.hid (HKZ.out.then k4)
                clear k4
                cases anyu
                · have HE := Lib.hid (dend_any B hi g n D2 w4 HD4.out (by rw [HL2.out]; exact hnl) (by rw [HL2.out]; omega))
                  rw [← HN.out] at HE
                  go_wp2_with fail
                  refine HE.out.mono ?_
                  rintro e w5 ⟨⟨v5, rfl⟩, hd5, hk5⟩
                  have HF5 := Lib.hid (flushes_any B hi g (dend D2 id) w5 hd5 (by rw [dend_len, HL2.out]; exact few) (HWT.out.dend id))
                  have HK5 := Lib.hid (HK4.out.trans hk5)
                  clear hd5 hk5
                  go_wp2_with fail
                  refine HF5.out.mono ?_
                  rintro e w6 ⟨⟨v6, rfl⟩, hd6, hk6⟩
                  have HD6 := Lib.hid hd6
                  have HK6 := Lib.hid (HK5.out.trans hk6)
                  clear hd6 hk6
                  go_wp2_with fail
                  go_ret
                  exact ⟨rfl, HD6.out, HK6.out⟩
                · go_wp2_with fail
                  go_ret
                  exact ⟨rfl, HD4.out, HK4.out⟩
            · have hw : D.ts[n].write = false := by
                cases hw : D.ts[n].write
                · rfl
                · exact absurd (.inl hw) hwi
              have hsz : s.size ≠ 8 * D.ts[n].parts[kn].cnt := fun e => hwi (.inr e)
              rw [h2 ht hw hsz]
              rw [ht] at x7
              rw [hw] at t1
              have e3 : ((s.size : Int) != 8 * (D.ts[n].parts[kn].cnt : Int)) = true := by rw [bne_iff_ne]; omega
              clear h51 h2 hok ht hst hn hsm hsm' h hk0 HDN HKZ HWT HTOLD hsz hw hwi
              generalize D.ts[n].parts[kn] = p at *
              generalize D.ts[n].parts.length = pl at *
              generalize p.cnt = cnt at *
              clear hcnt
              go_enter Try.func34, Try.ntmps34
              go_wp2_with fail
              refine HNO.out.mono ?_
              rintro e w1 ⟨rfl, rfl⟩
              go_wp2_with (at_lookup; refine wpList_lookP _ rfl _ _ rfl M _ f rfl HM.out id hid rfl (some tb) HF.out ?_; show wpList _ _ _ _ (Act.put _ _ (Value.pointer (some ⟨tb, 0, none⟩))) _)
              go_ret
              exact ⟨rfl, H.out, KeepZ.refl _ _⟩
          · rw [h51 ht]
            rw [ht] at x7
            clear h51 h2 hok ht hst hn hsm hsm' h hk0 HDN HKZ HWT HTOLD
            generalize D.ts[n].parts[kn] = p at *
            generalize D.ts[n].parts.length = pl at *
            go_enter Try.func34, Try.ntmps34
            go_wp2_with fail
            refine HNO.out.mono ?_
            rintro e w1 ⟨rfl, rfl⟩
            go_wp2_with (at_lookup; refine wpList_lookP _ rfl _ _ rfl M _ f rfl HM.out id hid rfl (some tb) HF.out ?_; show wpList _ _ _ _ (Act.put _ _ (Value.pointer (some ⟨tb, 0, none⟩))) _)
            go_ret
            exact ⟨rfl, H.out, KeepZ.refl _ _⟩
        · have hd := dtold_40 D n kn s hnl (.inr (.inr (by omega)))
          rw [hn, hd, ← hn]
          rw [hst] at t3
          have e1 : decide ((kn : Int) < 0) = false := by simp
          have e2 : decide (D.ts[n].parts.length ≤ kn) = true := by simp; omega
          clear hst hd hn hnext hsm hsm' HT trow h hk0 hkl
          generalize D.ts[n].parts.length = pl at *
          go_enter Try.func34, Try.ntmps34
          go_wp2_with fail
          refine HNO.out.mono ?_
          rintro e w1 ⟨rfl, rfl⟩
          go_wp2_with (at_lookup; refine wpList_lookP _ rfl _ _ rfl M _ f rfl HM.out id hid rfl (some tb) HF.out ?_; show wpList _ _ _ _ (Act.put _ _ (Value.pointer (some ⟨tb, 0, none⟩))) _)
          go_ret
          exact ⟨rfl, H.out, KeepZ.refl _ _⟩
    · have hd := dtold_40 D n k s hnl (.inl hst)
      rw [hn, hd, ← hn]
      have e1 : ((D.ts[n].state : Int) == 1) = false := beq_eq_false_iff_ne.2 (by omega)
      have e2 : ((D.ts[n].state : Int) != 1) = true := by rw [bne_iff_ne]; omega
      clear hst hd hn hnext hsm hsm' HT trow h
      generalize D.ts[n].state = st at *
      go_enter Try.func34, Try.ntmps34
      go_wp2_with fail
      refine HNO.out.mono ?_
      rintro e w1 ⟨rfl, rfl⟩
      go_wp2_with (at_lookup; refine wpList_lookP _ rfl _ _ rfl M _ f rfl HM.out id hid rfl (some tb) HF.out ?_; show wpList _ _ _ _ (Act.put _ _ (Value.pointer (some ⟨tb, 0, none⟩))) _)
      go_ret
      exact ⟨rfl, H.out, KeepZ.refl _ _⟩
end Go.Proofs.Ytimdaioojnohmaa
