/-
  (*Disk).Flush walked.
-/
import Derived.Test.YtimdaioojnohmaaDFlushes
namespace Go.Proofs.Ytimdaioojnohmaa
open Go.RowKit Go.Maps
variable {X : Nat → Prop}

theorem DAt.notnone {B hi g : Nat} {D : DD} {w : World} (h : DAt X B hi w g D) (hper : D.per ≠ 0) : Calls Try.prog 68 #[.pointer (some ⟨g, 0, none⟩)] w fun e w' => e = .returned (.bool false) ∧ w = w' := by
  obtain ⟨cs, hcs, h1, -, -⟩ := h.disk
  have := dnone_at g D.per w ((blk_cell hcs 1).trans h1)
  rw [decide_eq_false hper] at this
  exact this
theorem getD_snoc (ts : List DTask) (t : DTask) (i : Nat) : (ts ++ [t]).getD i default = if i < ts.length then ts.getD i default else if i = ts.length then t else default := by
  rw [List.getD_eq_getElem?_getD, List.getElem?_append, List.getD_eq_getElem?_getD]
  by_cases h : i < ts.length
  · simp [h]
  · rw [if_neg h, if_neg h]
    by_cases e : i = ts.length
    · subst e; simp
    · rw [if_neg e, List.getElem?_eq_none (by simp; omega)]; rfl
theorem dadd_ok {D : DD} {t : DTask} {now : Nat} (h : (dadd D t now).2.1 = 0) : (dadd D t now).2.2.ts = D.ts ++ [{ t with state := 1 }] := by
  unfold dadd at h ⊢
  by_cases e : (qput D.most D.q (D.ts.length + 1) now).1 = 0
  · rw [if_pos e]
  · rw [if_neg e] at h
    exact absurd h e
theorem WOk.add {D : DD} {t : DTask} {now : Nat} (h : WOk D) (h0 : (dadd D t now).2.1 = 0) (h1 : t.wants.length ≤ D.ts.length) (h2 : ∀ k ∈ t.wants, 1 ≤ k ∧ k ≤ D.ts.length) : WOk (dadd D t now).2.2 := fun i => by
  have hts := dadd_ok h0
  rw [hts, getD_snoc, List.length_append]
  by_cases e : i < D.ts.length
  · rw [if_pos e]
    exact ⟨Nat.le_trans (h i).1 (Nat.le_add_right _ _), fun k hk => ⟨((h i).2 k hk).1, Nat.le_trans ((h i).2 k hk).2 (Nat.le_add_right _ _)⟩⟩
  · rw [if_neg e]
    by_cases e2 : i = D.ts.length
    · rw [if_pos e2]
      exact ⟨Nat.le_trans h1 (Nat.le_add_right _ _), fun k hk => ⟨(h2 k hk).1, Nat.le_trans (h2 k hk).2 (Nat.le_add_right _ _)⟩⟩
    · rw [if_neg e2]
      exact ⟨Nat.zero_le _, fun k hk => by cases hk⟩

set_option maxRecDepth 100000 in
set_option maxHeartbeats 2000000 in
theorem dflush_any (B hi g now : Nat) (D : DD) (w : World) (h : DAt X B hi w g D) (few : D.ts.length ≤ 1048575) (hwok : WOk D) (hper : D.per ≠ 0) (hX : ∀ k, X k → k < w.heap.size) :
    Calls Try.prog 33 #[.pointer (some ⟨g, 0, none⟩), .int .u64 (now : Nat)] w fun e w' => e = .returned (.tuple #[.int .u64 ((dflush D now).1 : Nat), .int .i64 ((dflush D now).2.1 : Nat)]) ∧ DAt X B w'.heap.size w' g (dflush D now).2.2 ∧ KeepZ (TP X B) w w' := by
  have HNO := Lib.hid (h.notnone hper)
  have HW := Lib.hid (waiting_writes B hi g D w h (by omega))
  have H := Lib.hid h
  have HWOK := Lib.hid hwok
  have hrange := dwait_range D.ts (fun t => t.write)
  have hlen := dwait_len D.ts (fun t => t.write)
  unfold dflush
  have HRANGE := Lib.hid hrange
  clear h hwok hper hrange
  change Calls _ _ _ _ (fun e w' => e = .returned (.tuple #[.int .u64 ((dadd D ⟨[], false, dwaitOf D.ts (fun t => t.write), 0⟩ now).1 : Nat), .int .i64 ((dadd D ⟨[], false, dwaitOf D.ts (fun t => t.write), 0⟩ now).2.1 : Nat)]) ∧
    DAt X B w'.heap.size w' g (if (dadd D ⟨[], false, dwaitOf D.ts (fun t => t.write), 0⟩ now).2.1 = 0 then dflushes (dadd D ⟨[], false, dwaitOf D.ts (fun t => t.write), 0⟩ now).2.2 else (dadd D ⟨[], false, dwaitOf D.ts (fun t => t.write), 0⟩ now).2.2) ∧ KeepZ (TP X B) w w')
  generalize dwaitOf D.ts (fun t => t.write) = ids at *
  obtain ⟨t, htt⟩ : ∃ t : DTask, t = ⟨[], false, ids, 0⟩ := ⟨_, rfl⟩
  have hadd := fun hi' tb w' h1 h2 => dadd_any (X := X) B hi' g tb now D t w' h1 (by omega) h2
  have hw2 : (dadd D t now).2.1 = 0 → WOk (dadd D t now).2.2 ∧ (dadd D t now).2.2.ts.length ≤ 1048576 := fun h0 => ⟨HWOK.out.add h0 (by rw [htt]; exact hlen) (by rw [htt]; exact HRANGE.out), by rw [dadd_ok h0]; simp; omega⟩
  rw [← htt]
  have HTT := Lib.hid htt
  clear htt
  have HADD := Lib.hid hadd
  have HW2 := Lib.hid hw2
  clear hadd hw2
  obtain ⟨r, hr⟩ : ∃ r, r = dadd D t now := ⟨_, rfl⟩
  rw [← hr] at HADD HW2 ⊢
  clear hr
  obtain ⟨rid, code, D2⟩ := r
  simp only at HADD HW2 ⊢
  go_enter Try.func33, Try.ntmps33
  go_wp2_with fail
  refine HNO.out.mono ?_
  rintro e w1 ⟨rfl, rfl⟩
  go_wp2_with fail
  refine HW.out.mono ?_
  rintro e w1 ⟨v, rfl, hv, k1⟩
  obtain ⟨A, k, rfl, ho, hvb⟩ := hv
  have k2 : Keep No w (w1.alloc (.cells #[.slice none 0 0, .bool false, .slice A ids.length k, .int .i64 0] 143)) := k1.alloc _
  have hT : TAt X (w1.alloc (.cells #[.slice none 0 0, .bool false, .slice A ids.length k, .int .i64 0] 143)) w1.heap.size (w1.alloc (.cells #[.slice none 0 0, .bool false, .slice A ids.length k, .int .i64 0] 143)).heap.size w1.heap.size t := by
    rw [HTT.out]
    exact ⟨Nat.le_refl _, by rw [World.size_alloc]; omega, none, 0, _, blk_at _ _ rfl, World.ownsRow_nil _ _ _ _, fun b hb => by simp [Value.ownBlock] at hb, ⟨A, k, rfl, ho.alloc _⟩, fun k' hk' e => absurd (hvb k' hk') (Nat.not_le.2 (hX k' e))⟩
  have HA := Lib.hid (HADD.out w1.heap.size w1.heap.size _ ((H.out.no k2).up (Nat.le_trans (by obtain ⟨_, _, _, _, _, _, _, _, _, _, _, _, _, _, _, _, _, _, hs⟩ := H.out; exact hs) k1.size) (by rw [World.size_alloc]; omega)) hT)
  clear ho hT
  go_wp2_with fail
  refine HA.out.mono ?_
  rintro e w3 ⟨rfl, hd3, hk3⟩
  have HD3 := Lib.hid hd3
  have HKA := Lib.hid ((KeepZ.of k2).trans hk3)
  clear hd3 hk3 HA
  by_cases hc : code = 0
  · subst hc
    have HF := Lib.hid (flushes_any B w3.heap.size g D2 w3 HD3.out (HW2.out rfl).2 (HW2.out rfl).1)
    go_wp2_with fail
    refine HF.out.mono ?_
    rintro e w4 ⟨⟨v, rfl⟩, hd4, hk4⟩
    have HD4 := Lib.hid hd4
    clear hd4
    go_wp2_with fail
    go_ret2
    refine ⟨rfl, ?_, HKA.out.trans hk4⟩
    exact HD4.out.up hk4.size (Nat.le_refl _)
  · have hce : ((code : Int) == 0) = false := beq_eq_false_iff_ne.2 (by omega)
    go_wp2_with fail
    go_ret2
    refine ⟨rfl, ?_, HKA.out⟩
    exact HD3.out
end Go.Proofs.Ytimdaioojnohmaa
