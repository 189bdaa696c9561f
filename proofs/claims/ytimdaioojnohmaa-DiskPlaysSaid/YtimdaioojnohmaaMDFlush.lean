/-
  (*Disk).Flush walked.
  (*Disk).Tick walked.
  (*Disk).Tick: what it hands back is new.
-/
import Derived.Test.YtimdaioojnohmaaMDFlushes
namespace Go.Proofs.Ytimdaioojnohmaa
open Go.RowKit Go.Maps
variable {X : Nat → Prop}

theorem DAt.notnone {B hi g : Nat} {D : DD} {w : World} (h : DAt X B hi w g D) (hper : D.per ≠ 0) : Calls Try.prog 68 #[.pointer (some ⟨g, 0, none⟩)] w fun e w' => e = .returned (.bool false) ∧ w = w' := by
  obtain ⟨cs, hcs, h1, -, -⟩ := h.disk
  have := dnone_at g D.per w ((blk_cell hcs 1).trans h1)
  rw [decide_eq_false hper] at this
  exact this
theorem getD_snoc (ts : List DTask) (t : DTask) (i : Nat) : (ts ++ [t]).getD i default = if i < ts.length then ts.getD i default else if i = ts.length then t else default := by
  rw [List.getD_eq_getElem?_getD, List.getElem?_append, List.getD_eq_getElem?_getD]
  by_cases h : i < ts.length
  · simp [h]
  · rw [if_neg h, if_neg h]
    by_cases e : i = ts.length
    · subst e; simp
    · rw [if_neg e, List.getElem?_eq_none (by simp; omega)]; rfl
theorem dadd_ok {D : DD} {t : DTask} {now : Nat} (h : (dadd D t now).2.1 = 0) : (dadd D t now).2.2.ts = D.ts ++ [{ t with state := 1 }] := by
  unfold dadd at h ⊢
  by_cases e : (qput D.most D.q (D.ts.length + 1) now).1 = 0
  · rw [if_pos e]
  · rw [if_neg e] at h
    exact absurd h e
theorem WOk.add {D : DD} {t : DTask} {now : Nat} (h : WOk D) (h0 : (dadd D t now).2.1 = 0) (h1 : t.wants.length ≤ D.ts.length) (h2 : ∀ k ∈ t.wants, 1 ≤ k ∧ k ≤ D.ts.length) : WOk (dadd D t now).2.2 := fun i => by
  have hts := dadd_ok h0
  rw [hts, getD_snoc, List.length_append]
  by_cases e : i < D.ts.length
  · rw [if_pos e]
    exact ⟨Nat.le_trans (h i).1 (Nat.le_add_right _ _), fun k hk => ⟨((h i).2 k hk).1, Nat.le_trans ((h i).2 k hk).2 (Nat.le_add_right _ _)⟩⟩
  · rw [if_neg e]
    by_cases e2 : i = D.ts.length
    · rw [if_pos e2]
      exact ⟨Nat.le_trans h1 (Nat.le_add_right _ _), fun k hk => ⟨(h2 k hk).1, Nat.le_trans (h2 k hk).2 (Nat.le_add_right _ _)⟩⟩
    · rw [if_neg e2]
      exact ⟨Nat.zero_le _, fun k hk => by cases hk⟩

set_option maxRecDepth 100000 in
set_option maxHeartbeats 2000000 in
theorem dflush_any (B hi g now : Nat) (D : DD) (w : World) (h : DAt X B hi w g D) (few : D.ts.length ≤ 1048575) (hwok : WOk D) (hper : D.per ≠ 0) (hX : ∀ k, X k → k < w.heap.size) :
    Calls Try.prog 33 #[.pointer (some ⟨g, 0, none⟩), .int .u64 (now : Nat)] w fun e w' => e = .returned (.tuple #[.int .u64 ((dflush D now).1 : Nat), .int .i64 ((dflush D now).2.1 : Nat)]) ∧ DAt X B w'.heap.size w' g (dflush D now).2.2 ∧ KeepZ (TP X B) w w' := by
  have HNO := Lib.hid (h.notnone hper)
  have HW := Lib.hid (waiting_writes B hi g D w h (by omega))
  have H := Lib.hid h
  have HWOK := Lib.hid hwok
  have hrange := dwait_range D.ts (fun t => t.write)
  have hlen := dwait_len D.ts (fun t => t.write)
  unfold dflush
  have HRANGE := Lib.hid hrange
  clear h hwok hper hrange
  change Calls _ _ _ _ (fun e w' => e = .returned (.tuple #[.int .u64 ((dadd D ⟨[], false, dwaitOf D.ts (fun t => t.write), 0⟩ now).1 : Nat), .int .i64 ((dadd D ⟨[], false, dwaitOf D.ts (fun t => t.write), 0⟩ now).2.1 : Nat)]) ∧
    DAt X B w'.heap.size w' g (if (dadd D ⟨[], false, dwaitOf D.ts (fun t => t.write), 0⟩ now).2.1 = 0 then dflushes (dadd D ⟨[], false, dwaitOf D.ts (fun t => t.write), 0⟩ now).2.2 else (dadd D ⟨[], false, dwaitOf D.ts (fun t => t.write), 0⟩ now).2.2) ∧ KeepZ (TP X B) w w')
  generalize dwaitOf D.ts (fun t => t.write) = ids at *
  obtain ⟨t, htt⟩ : ∃ t : DTask, t = ⟨[], false, ids, 0⟩ := ⟨_, rfl⟩
  have hadd := fun hi' tb w' h1 h2 => dadd_any (X := X) B hi' g tb now D t w' h1 (by omega) h2
  have hw2 : (dadd D t now).2.1 = 0 → WOk (dadd D t now).2.2 ∧ (dadd D t now).2.2.ts.length ≤ 1048576 := fun h0 => ⟨HWOK.out.add h0 (by rw [htt]; exact hlen) (by rw [htt]; exact HRANGE.out), by rw [dadd_ok h0]; simp; omega⟩
  rw [← htt]
  have HTT := Lib.hid htt
  clear htt
  have HADD := Lib.hid hadd
  have HW2 := Lib.hid hw2
  clear hadd hw2
  obtain ⟨r, hr⟩ : ∃ r, r = dadd D t now := ⟨_, rfl⟩
  rw [← hr] at HADD HW2 ⊢
  clear hr
  obtain ⟨rid, code, D2⟩ := r
  simp only at HADD HW2 ⊢
  go_enter Try.func33, Try.ntmps33
  go_wp2_with fail
  refine HNO.out.mono ?_
  rintro e w1 ⟨rfl, rfl⟩
  go_wp2_with fail
  refine HW.out.mono ?_
  rintro e w1 ⟨v, rfl, hv, k1⟩
  obtain ⟨A, k, rfl, ho, hvb⟩ := hv
  have k2 : Keep No w (w1.alloc (.cells #[.slice none 0 0, .bool false, .slice A ids.length k, .int .i64 0] 143)) := k1.alloc _
  have hT : TAt X (w1.alloc (.cells #[.slice none 0 0, .bool false, .slice A ids.length k, .int .i64 0] 143)) w1.heap.size (w1.alloc (.cells #[.slice none 0 0, .bool false, .slice A ids.length k, .int .i64 0] 143)).heap.size w1.heap.size t := by
    rw [HTT.out]
    exact ⟨Nat.le_refl _, by rw [World.size_alloc]; omega, none, 0, _, blk_at _ _ rfl, World.ownsRow_nil _ _ _ _, fun b hb => by simp [Value.ownBlock] at hb, ⟨A, k, rfl, ho.alloc _⟩, fun k' hk' e => absurd (hvb k' hk') (Nat.not_le.2 (hX k' e))⟩
  have HA := Lib.hid (HADD.out w1.heap.size w1.heap.size _ ((H.out.no k2).up (Nat.le_trans (by obtain ⟨_, _, _, _, _, _, _, _, _, _, _, _, _, _, _, _, _, _, hs⟩ := H.out; exact hs) k1.size) (by rw [World.size_alloc]; omega)) hT)
  clear ho hT
  go_wp2_with fail
  refine HA.out.mono ?_
  rintro e w3 ⟨rfl, hd3, hk3⟩
  have HD3 := Lib.hid hd3
  have HKA := Lib.hid ((KeepZ.of k2).trans hk3)
  clear hd3 hk3 HA
  by_cases hc : code = 0
  · subst hc
    have HF := Lib.hid (flushes_any B w3.heap.size g D2 w3 HD3.out (HW2.out rfl).2 (HW2.out rfl).1)
    go_wp2_with fail
    refine HF.out.mono ?_
    rintro e w4 ⟨⟨v, rfl⟩, hd4, hk4⟩
    have HD4 := Lib.hid hd4
    clear hd4
    go_wp2_with fail
    go_ret2
    refine ⟨rfl, ?_, HKA.out.trans hk4⟩
    exact HD4.out.up hk4.size (Nat.le_refl _)
  · have hce : ((code : Int) == 0) = false := beq_eq_false_iff_ne.2 (by omega)
    go_wp2_with fail
    go_ret2
    refine ⟨rfl, ?_, HKA.out⟩
    exact HD3.out
end Go.Proofs.Ytimdaioojnohmaa

namespace Go.Proofs.Ytimdaioojnohmaa
open Go.RowKit Go.Maps
variable {X : Nat → Prop}

theorem dlates_len (ts : List DTask) (l : List Nat) : (dlates ts l).length = ts.length := by
  unfold dlates
  induction l generalizing ts with
  | nil => rfl
  | cons x l ih => rw [List.foldl_cons, ih]; simp
theorem dlates_snoc (ts : List DTask) (l : List Nat) (x : Nat) : dlates ts (l ++ [x]) = (dlates ts l).set (x - 1) { (dlates ts l).getD (x - 1) default with state := 3 } := by
  unfold dlates
  rw [List.foldl_append]; rfl

set_option maxRecDepth 100000 in
set_option maxHeartbeats 2000000 in
theorem dtick_any (B hi g now : Nat) (D : DD) (w : World) (h : DAt X B hi w g D) (few : D.ts.length ≤ 1048575) (hper : D.per ≠ 0) (hq : QB D.q) (hids : ∀ x ∈ D.q, 1 ≤ x.1 ∧ x.1 ≤ D.ts.length) (hnow : now < 18446744073709551616) :
    Calls Try.prog 36 #[.pointer (some ⟨g, 0, none⟩), .int .u64 (now : Nat)] w fun e w' => ∃ r, e = .returned r ∧ N64 w' r (dtick D now).1 ∧ DAt X B hi w' g (dtick D now).2 ∧ KeepZ (TP X B) w w' := by
  have HNO := Lib.hid (h.notnone hper)
  obtain ⟨qb, c0, hqa, h0, hBs, hnext⟩ := h.queue
  have HL := Lib.hid (qlate_any B qb D.most D.pat now D.q w hqa h0 hBs hnow hq)
  have HNEXT := Lib.hid hnext
  have hl64 : (qlate D.pat D.q now).1.length ≤ 64 := by
    obtain ⟨_, _, _, _, _, _, _, hl, _⟩ := hqa
    unfold qlate
    simp only [List.length_map]
    exact Nat.le_trans (List.length_filter_le _ _) hl
  have hrange : ∀ x ∈ (qlate D.pat D.q now).1, 1 ≤ x ∧ x ≤ D.ts.length := fun x hx => by
    unfold qlate at hx
    obtain ⟨y, hy, rfl⟩ := List.mem_map.1 hx
    exact hids y (List.mem_filter.1 hy).1
  have HRANGE := Lib.hid hrange
  unfold dtick
  clear h hnext hqa hq hids hnow hrange hper h0
  simp only
  generalize (qlate D.pat D.q now).1 = ids at *
  generalize (qlate D.pat D.q now).2 = q2 at *
  go_enter Try.func36, Try.ntmps36
  go_wp2_with fail
  refine HNO.out.mono ?_
  rintro e w1 ⟨rfl, rfl⟩
  go_wp2_with fail
  refine HL.out.mono ?_
  rintro e w1 ⟨r, rfl, hr, hq2, k1⟩
  have hd1 := HNEXT.out w1 q2 hq2 k1
  have HD1 := Lib.hid hd1
  have hr29 := hr.r29
  obtain ⟨A, cc, rfl, -⟩ := hr
  have HR29 := Lib.hid hr29
  have hk1 : KeepZ (TP X B) w w1 := k1.mono TQ.tp
  clear hd1 hr29 hq2 k1
  go_wp2_with fail
  go_loopw [19] (fun iv wr => ∃ i, i ≤ ids.length ∧ iv = .int .i64 (i : Nat) ∧ Hid (DAt X B hi wr g { D with q := q2, ts := dlates D.ts (ids.take i) }) ∧ KeepZ (TP X B) w1 wr) (fun iv _ => ids.length - (intOf iv).toNat)
  case atStart => exact ⟨0, Nat.zero_le _, rfl, HD1, KeepZ.refl _ _⟩
  case round =>
    obtain ⟨i, hi', rfl, hd, hk⟩ := hrel
    have noTP : ∀ k, ¬ TP X B k (some 29) := fun k ⟨_, h⟩ => by rcases h with h | h | h | h | h | h <;> simp at h
    have hr2 : R29 wr (.slice A ids.length cc) ids := HR29.out.keepZ hk noTP
    by_cases hlt : i < ids.length
    · obtain ⟨b, o, c', hv, hc', hcell⟩ := hr2.n64.at_ i hlt
      injection hv with hAA _ hcc
      subst hAA hcc
      have hidr := HRANGE.out ids[i] (List.getElem_mem hlt)
      have htake : dlates D.ts (ids.take (i + 1)) = (dlates D.ts (ids.take i)).set (ids[i] - 1) { (dlates D.ts (ids.take i)).getD (ids[i] - 1) default with state := 3 } := by
        rw [List.take_succ_eq_append_getElem hlt, dlates_snoc]
      have hln := dlates_len D.ts (ids.take i)
      have HTAKE := Lib.hid htake
      clear htake hr2
      generalize dlates D.ts (ids.take i) = T at *
      generalize ids[i] = id at *
      obtain ⟨n, rfl⟩ : ∃ n, id = n + 1 := ⟨id - 1, by omega⟩
      have hnl : n < T.length := by omega
      obtain ⟨M, f, tb, l1, l2, c4, hm, hf, hBl, ht, hput⟩ := hd.out.task n hnl
      obtain ⟨hts, hkz⟩ : TAt X (wr.setCell ⟨tb, 3, none⟩ (.int .i64 3)) l1 l2 tb { T[n] with state := 3 } ∧ KeepZ (TT l1 l2) wr (wr.setCell ⟨tb, 3, none⟩ (.int .i64 3)) := ht.state 3
      have hd2 := hput _ _ hts hkz
      obtain ⟨-, -, AA, kk, W, tcell, -⟩ := ht
      have t3 := (blk_cell tcell 3).trans rfl
      have ft3 := blk_free tcell 3
      have HM := Lib.hid hm
      have HF := Lib.hid hf
      have HD2 := Lib.hid hd2
      have hkk := hk.trans (hkz.mono (TT.tp (X := X) hBl))
      have hidl : n + 1 < 18446744073709551616 := by omega
      have HG : Hid (T.getD (n + 1 - 1) default = T[n]) := by show _ = _; rw [Nat.add_sub_cancel]; exact getD_at _ n hnl
      clear hm hf hput hts hkz hd2 tcell
      go_wp2_with (at_lookup; refine wpList_lookP _ rfl _ _ rfl M _ f rfl HM.out (n + 1) hidl rfl (some tb) HF.out ?_; show wpList _ _ _ _ (Act.put _ _ (Value.pointer (some ⟨tb, 0, none⟩))) _)
      refine ⟨⟨i + 1, by omega, by simp, ?_, hkk⟩, by simp [intOf]; omega⟩
      show DAt _ _ _ _ _ _
      rw [HTAKE.out, HG.out]
      exact HD2.out
    · obtain rfl : i = ids.length := by omega
      have hd2 := hd.out
      rw [List.take_length] at hd2
      have HD2 := Lib.hid hd2
      have HR2 := Lib.hid hr2.n64
      clear hd2 hr2
      go_wp2_with fail
      go_ret
      exact ⟨_, rfl, HR2.out, HD2.out, hk1.trans hk⟩
end Go.Proofs.Ytimdaioojnohmaa

namespace Go.Proofs.Ytimdaioojnohmaa
open Go.RowKit Go.Maps
variable {X : Nat → Prop}
theorem New64.overP {X : Nat → Prop} {B : Nat} {w0 w w' : World} {r : Value} {l : List Nat} (h : New64 w0 w r l) (hk : KeepZ (TP X B) w w') : New64 w0 w' r l := by
  obtain ⟨A, k, rfl, ho, hA⟩ := h
  exact ⟨A, k, rfl, hk.row ho (fun i _ ⟨_, e⟩ => by rcases e with e | e | e | e | e | e <;> simp at e), hA⟩
set_option maxRecDepth 100000 in
set_option maxHeartbeats 2000000 in
theorem dtick_new (B hi g now : Nat) (D : DD) (w : World) (h : DAt X B hi w g D) (few : D.ts.length ≤ 1048575) (hper : D.per ≠ 0) (hq : QB D.q) (hids : ∀ x ∈ D.q, 1 ≤ x.1 ∧ x.1 ≤ D.ts.length) (hnow : now < 18446744073709551616) :
    Calls Try.prog 36 #[.pointer (some ⟨g, 0, none⟩), .int .u64 (now : Nat)] w fun e w' => ∃ r, e = .returned r ∧ New64 w w' r (dtick D now).1 ∧ DAt X B hi w' g (dtick D now).2 ∧ KeepZ (TP X B) w w' := by
  have HNO := Lib.hid (h.notnone hper)
  obtain ⟨qb, c0, hqa, h0, hBs, hnext⟩ := h.queue
  have HL := Lib.hid (qlate_any B qb D.most D.pat now D.q w hqa h0 hBs hnow hq)
  have HNEXT := Lib.hid hnext
  have hl64 : (qlate D.pat D.q now).1.length ≤ 64 := by
    obtain ⟨_, _, _, _, _, _, _, hl, _⟩ := hqa
    unfold qlate
    simp only [List.length_map]
    exact Nat.le_trans (List.length_filter_le _ _) hl
  have hrange : ∀ x ∈ (qlate D.pat D.q now).1, 1 ≤ x ∧ x ≤ D.ts.length := fun x hx => by
    unfold qlate at hx
    obtain ⟨y, hy, rfl⟩ := List.mem_map.1 hx
    exact hids y (List.mem_filter.1 hy).1
  have HRANGE := Lib.hid hrange
  unfold dtick
  clear h hnext hqa hq hids hnow hrange hper h0
  simp only
  generalize (qlate D.pat D.q now).1 = ids at *
  generalize (qlate D.pat D.q now).2 = q2 at *
  go_enter Try.func36, Try.ntmps36
  go_wp2_with fail
  refine HNO.out.mono ?_
  rintro e w1 ⟨rfl, rfl⟩
  go_wp2_with fail
  refine HL.out.mono ?_
  rintro e w1 ⟨r, rfl, hr, hq2, k1⟩
  have hd1 := HNEXT.out w1 q2 hq2 k1
  have HD1 := Lib.hid hd1
  have HNEW := Lib.hid hr
  have hr29 := hr.r29
  obtain ⟨A, cc, rfl, -⟩ := hr
  have HR29 := Lib.hid hr29
  have hk1 : KeepZ (TP X B) w w1 := k1.mono TQ.tp
  clear hd1 hr29 hq2 k1
  go_wp2_with fail
  go_loopw [19] (fun iv wr => ∃ i, i ≤ ids.length ∧ iv = .int .i64 (i : Nat) ∧ Hid (DAt X B hi wr g { D with q := q2, ts := dlates D.ts (ids.take i) }) ∧ KeepZ (TP X B) w1 wr) (fun iv _ => ids.length - (intOf iv).toNat)
  case atStart => exact ⟨0, Nat.zero_le _, rfl, HD1, KeepZ.refl _ _⟩
  case round =>
    obtain ⟨i, hi', rfl, hd, hk⟩ := hrel
    have noTP : ∀ k, ¬ TP X B k (some 29) := fun k ⟨_, h⟩ => by rcases h with h | h | h | h | h | h <;> simp at h
    have hr2 : R29 wr (.slice A ids.length cc) ids := HR29.out.keepZ hk noTP
    by_cases hlt : i < ids.length
    · obtain ⟨b, o, c', hv, hc', hcell⟩ := hr2.n64.at_ i hlt
      injection hv with hAA _ hcc
      subst hAA hcc
      have hidr := HRANGE.out ids[i] (List.getElem_mem hlt)
      have htake : dlates D.ts (ids.take (i + 1)) = (dlates D.ts (ids.take i)).set (ids[i] - 1) { (dlates D.ts (ids.take i)).getD (ids[i] - 1) default with state := 3 } := by
        rw [List.take_succ_eq_append_getElem hlt, dlates_snoc]
      have hln := dlates_len D.ts (ids.take i)
      have HTAKE := Lib.hid htake
      clear htake hr2
      generalize dlates D.ts (ids.take i) = T at *
      generalize ids[i] = id at *
      obtain ⟨n, rfl⟩ : ∃ n, id = n + 1 := ⟨id - 1, by omega⟩
      have hnl : n < T.length := by omega
      obtain ⟨M, f, tb, l1, l2, c4, hm, hf, hBl, ht, hput⟩ := hd.out.task n hnl
      obtain ⟨hts, hkz⟩ : TAt X (wr.setCell ⟨tb, 3, none⟩ (.int .i64 3)) l1 l2 tb { T[n] with state := 3 } ∧ KeepZ (TT l1 l2) wr (wr.setCell ⟨tb, 3, none⟩ (.int .i64 3)) := ht.state 3
      have hd2 := hput _ _ hts hkz
      obtain ⟨-, -, AA, kk, W, tcell, -⟩ := ht
      have t3 := (blk_cell tcell 3).trans rfl
      have ft3 := blk_free tcell 3
      have HM := Lib.hid hm
      have HF := Lib.hid hf
      have HD2 := Lib.hid hd2
      have hkk := hk.trans (hkz.mono (TT.tp (X := X) hBl))
      have hidl : n + 1 < 18446744073709551616 := by omega
      have HG : Hid (T.getD (n + 1 - 1) default = T[n]) := by show _ = _; rw [Nat.add_sub_cancel]; exact getD_at _ n hnl
      clear hm hf hput hts hkz hd2 tcell
      go_wp2_with (at_lookup; refine wpList_lookP _ rfl _ _ rfl M _ f rfl HM.out (n + 1) hidl rfl (some tb) HF.out ?_; show wpList _ _ _ _ (Act.put _ _ (Value.pointer (some ⟨tb, 0, none⟩))) _)
      refine ⟨⟨i + 1, by omega, by simp, ?_, hkk⟩, by simp [intOf]; omega⟩
      show DAt _ _ _ _ _ _
      rw [HTAKE.out, HG.out]
      exact HD2.out
    · obtain rfl : i = ids.length := by omega
      have hd2 := hd.out
      rw [List.take_length] at hd2
      have HD2 := Lib.hid hd2
      have HR2 := Lib.hid (HNEW.out.overP hk)
      clear hd2 hr2
      go_wp2_with fail
      go_ret
      exact ⟨_, rfl, HR2.out, HD2.out, hk1.trans hk⟩
end Go.Proofs.Ytimdaioojnohmaa
