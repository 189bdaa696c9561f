/-
  (*Disk).Tick walked.
-/
import Derived.Test.YtimdaioojnohmaaDFlush
namespace Go.Proofs.Ytimdaioojnohmaa
open Go.RowKit Go.Maps
variable {X : Nat → Prop}

theorem dlates_len (ts : List DTask) (l : List Nat) : (dlates ts l).length = ts.length := by
  unfold dlates
  induction l generalizing ts with
  | nil => rfl
  | cons x l ih => rw [List.foldl_cons, ih]; simp
theorem dlates_snoc (ts : List DTask) (l : List Nat) (x : Nat) : dlates ts (l ++ [x]) = (dlates ts l).set (x - 1) { (dlates ts l).getD (x - 1) default with state := 3 } := by
  unfold dlates
  rw [List.foldl_append]; rfl

set_option maxRecDepth 100000 in
set_option maxHeartbeats 2000000 in
theorem dtick_any (B hi g now : Nat) (D : DD) (w : World) (h : DAt X B hi w g D) (few : D.ts.length ≤ 1048575) (hper : D.per ≠ 0) (hq : QB D.q) (hids : ∀ x ∈ D.q, 1 ≤ x.1 ∧ x.1 ≤ D.ts.length) (hnow : now < 18446744073709551616) :
    Calls Try.prog 36 #[.pointer (some ⟨g, 0, none⟩), .int .u64 (now : Nat)] w fun e w' => ∃ r, e = .returned r ∧ N64 w' r (dtick D now).1 ∧ DAt X B hi w' g (dtick D now).2 ∧ KeepZ (TP X B) w w' := by
  have HNO := Lib.hid (h.notnone hper)
  obtain ⟨qb, c0, hqa, h0, hBs, hnext⟩ := h.queue
  have HL := Lib.hid (qlate_any B qb D.most D.pat now D.q w hqa h0 hBs hnow hq)
  have HNEXT := Lib.hid hnext
  have hl64 : (qlate D.pat D.q now).1.length ≤ 64 := by
    obtain ⟨_, _, _, _, _, _, _, hl, _⟩ := hqa
    unfold qlate
    simp only [List.length_map]
    exact Nat.le_trans (List.length_filter_le _ _) hl
  have hrange : ∀ x ∈ (qlate D.pat D.q now).1, 1 ≤ x ∧ x ≤ D.ts.length := fun x hx => by
    unfold qlate at hx
    obtain ⟨y, hy, rfl⟩ := List.mem_map.1 hx
    exact hids y (List.mem_filter.1 hy).1
  have HRANGE := Lib.hid hrange
  unfold dtick
  clear h hnext hqa hq hids hnow hrange hper h0
  simp only
  generalize (qlate D.pat D.q now).1 = ids at *
  generalize (qlate D.pat D.q now).2 = q2 at *
  go_enter Try.func36, Try.ntmps36
  go_wp2_with fail
  refine HNO.out.mono ?_
  rintro e w1 ⟨rfl, rfl⟩
  go_wp2_with fail
  refine HL.out.mono ?_
  rintro e w1 ⟨r, rfl, hr, hq2, k1⟩
  have hd1 := HNEXT.out w1 q2 hq2 k1
  have HD1 := Lib.hid hd1
  have hr29 := hr.r29
  obtain ⟨A, cc, rfl, -⟩ := hr
  have HR29 := Lib.hid hr29
  have hk1 : KeepZ (TP X B) w w1 := k1.mono TQ.tp
  clear hd1 hr29 hq2 k1
  go_wp2_with fail
  go_loopw [19] (fun iv wr => ∃ i, i ≤ ids.length ∧ iv = .int .i64 (i : Nat) ∧ Hid (DAt X B hi wr g { D with q := q2, ts := dlates D.ts (ids.take i) }) ∧ KeepZ (TP X B) w1 wr) (fun iv _ => ids.length - (intOf iv).toNat)
  case atStart => exact ⟨0, Nat.zero_le _, rfl, HD1, KeepZ.refl _ _⟩
  case round =>
    obtain ⟨i, hi', rfl, hd, hk⟩ := hrel
    have noTP : ∀ k, ¬ TP X B k (some 29) := fun k ⟨_, h⟩ => by rcases h with h | h | h | h | h | h <;> simp at h
    have hr2 : R29 wr (.slice A ids.length cc) ids := HR29.out.keepZ hk noTP
    by_cases hlt : i < ids.length
    · obtain ⟨b, o, c', hv, hc', hcell⟩ := hr2.n64.at_ i hlt
      injection hv with hAA _ hcc
      subst hAA hcc
      have hidr := HRANGE.out ids[i] (List.getElem_mem hlt)
      have htake : dlates D.ts (ids.take (i + 1)) = (dlates D.ts (ids.take i)).set (ids[i] - 1) { (dlates D.ts (ids.take i)).getD (ids[i] - 1) default with state := 3 } := by
        rw [List.take_succ_eq_append_getElem hlt, dlates_snoc]
      have hln := dlates_len D.ts (ids.take i)
      have HTAKE := Lib.hid htake
      clear htake hr2
      generalize dlates D.ts (ids.take i) = T at *
      generalize ids[i] = id at *
      obtain ⟨n, rfl⟩ : ∃ n, id = n + 1 := ⟨id - 1, by omega⟩
      have hnl : n < T.length := by omega
      obtain ⟨M, f, tb, l1, l2, c4, hm, hf, hBl, ht, hput⟩ := hd.out.task n hnl
      obtain ⟨hts, hkz⟩ : TAt X (wr.setCell ⟨tb, 3, none⟩ (.int .i64 3)) l1 l2 tb { T[n] with state := 3 } ∧ KeepZ (TT l1 l2) wr (wr.setCell ⟨tb, 3, none⟩ (.int .i64 3)) := ht.state 3
      have hd2 := hput _ _ hts hkz
      obtain ⟨-, -, AA, kk, W, tcell, -⟩ := ht
      have t3 := (blk_cell tcell 3).trans rfl
      have ft3 := blk_free tcell 3
      have HM := Lib.hid hm
      have HF := Lib.hid hf
      have HD2 := Lib.hid hd2
      have hkk := hk.trans (hkz.mono (TT.tp (X := X) hBl))
      have hidl : n + 1 < 18446744073709551616 := by omega
      have HG : Hid (T.getD (n + 1 - 1) default = T[n]) := by show _ = _; rw [Nat.add_sub_cancel]; exact getD_at _ n hnl
      clear hm hf hput hts hkz hd2 tcell
      go_wp2_with (at_lookup; refine wpList_lookP _ rfl _ _ rfl M _ f rfl HM.out (n + 1) hidl rfl (some tb) HF.out ?_; show wpList _ _ _ _ (Act.put _ _ (Value.pointer (some ⟨tb, 0, none⟩))) _)
      refine ⟨⟨i + 1, by omega, by simp, ?_, hkk⟩, by simp [intOf]; omega⟩
      show DAt _ _ _ _ _ _
      rw [HTAKE.out, HG.out]
      exact HD2.out
    · obtain rfl : i = ids.length := by omega
      have hd2 := hd.out
      rw [List.take_length] at hd2
      have HD2 := Lib.hid hd2
      have HR2 := Lib.hid hr2.n64
      clear hd2 hr2
      go_wp2_with fail
      go_ret
      exact ⟨_, rfl, HR2.out, HD2.out, hk1.trans hk⟩
end Go.Proofs.Ytimdaioojnohmaa
