/-
  (*Disk).Write and (*Disk).Read walked.
-/
import Derived.Test.YtimdaioojnohmaaDBegin
namespace Go.Proofs.Ytimdaioojnohmaa
open Go.RowKit Go.Maps
variable {X : Nat → Prop}

theorem dwrite_2 (D : DD) (a : Nat) (data : ByteArray) (now : Nat) (h : data.size / 8 = 0 ∨ data.size % 8 ≠ 0) : dwrite D a data now = (0, [], 2, D) := by
  unfold dwrite
  rw [if_pos h]
theorem dwrite_30 (D : DD) (a : Nat) (data : ByteArray) (now : Nat) (h : ¬ (data.size / 8 = 0 ∨ data.size % 8 ≠ 0)) (h2 : D.blocks < data.size / 8) : dwrite D a data now = (0, [], 30, D) := by
  unfold dwrite
  rw [if_neg h, if_pos h2]
theorem dwrite_ok (D : DD) (a : Nat) (data : ByteArray) (now : Nat) (h : ¬ (data.size / 8 = 0 ∨ data.size % 8 ≠ 0)) (h2 : ¬ D.blocks < data.size / 8) : dwrite D a data now = dbegin D a (data.size / 8) true data now := by
  unfold dwrite
  rw [if_neg h, if_neg h2]
theorem DAt.hi_le {B hi : Nat} {w : World} {g : Nat} {D : DD} (h : DAt X B hi w g D) : hi ≤ w.heap.size := by
  obtain ⟨_, _, _, _, _, _, _, _, _, _, _, _, _, _, _, _, _, _, hs⟩ := h
  exact hs
theorem DAt.top {B hi : Nat} {w w' : World} {g : Nat} {D : DD} (h : DAt X B hi w g D) (hk : Keep No w w') : DAt X B w'.heap.size w' g D := (h.no hk).up (h.no hk).hi_le (Nat.le_refl _)
set_option maxRecDepth 100000 in
set_option maxHeartbeats 2000000 in
theorem dwrite_any (B hi g a now : Nat) (data : ByteArray) (D : DD) (w : World) (h : DAt X B hi w g D) (hfit : dfit D.per D.blocks D.chunks.length = true) (hb32 : D.blocks < 4294967296) (few : D.ts.length ≤ 1048575)
    (ha : a < 4294967296) (hs : data.size ≤ 1073741824) :
    Calls Try.prog 31 #[.pointer (some ⟨g, 0, none⟩), .int .u32 (a : Nat), .string data, .int .u64 (now : Nat)] w fun e w' => ∃ v, e = .returned (.tuple #[.int .u64 ((dwrite D a data now).1 : Nat), v, .int .i64 ((dwrite D a data now).2.2.1 : Nat)]) ∧
      A125 w w' v (dwrite D a data now).2.1 ∧ DAt X B w'.heap.size w' g (dwrite D a data now).2.2.2 ∧ KeepZ (TP X B) w w' := by
  have hf := (dfit_iff _ _ _).1 hfit
  have HNO := Lib.hid (h.notnone (by omega))
  have H := Lib.hid h
  obtain ⟨cs, hcs, -, hc2, -⟩ := h.disk
  have c2 := (blk_cell hcs 2).trans hc2
  obtain ⟨n, hn⟩ : ∃ n, n = data.size / 8 := ⟨_, rfl⟩
  obtain ⟨r, hr⟩ : ∃ r, r = data.size % 8 := ⟨_, rfl⟩
  have q1 : (data.size : Int) / 8 = (n : Nat) := by omega
  have q2 : (data.size : Int) % 8 = (r : Nat) := by omega
  have hsz : data.size = 8 * n + r := by omega
  have hn2 : n ≤ 134217728 := by omega
  have h2 := dwrite_2 D a data now
  have h30 := dwrite_30 D a data now
  have hok := dwrite_ok D a data now
  rw [← hn, ← hr] at h2 h30
  rw [← hn, ← hr] at hok
  clear hcs hc2 h hn hr
  by_cases h0 : n = 0
  · rw [h2 (.inl h0)]
    subst h0
    clear h2 h30 hok hsz
    go_enter Try.func31, Try.ntmps31
    go_wp2_with fail
    refine HNO.out.mono ?_
    rintro e w1 ⟨rfl, rfl⟩
    go_wp2_with fail
    refine bodyPost_ret (results_tmp3 rfl _ _ _) rfl ?_
    exact ⟨_, rfl, A125.nil _ _, H.out.top (Keep.refl _ _), KeepZ.refl _ _⟩
  · have e0 : ((n : Int) == 0) = false := beq_eq_false_iff_ne.2 (by omega)
    by_cases hr0 : r = 0
    · subst hr0
      have w1' := IntWalk.u64_in (n : Int) (by omega)
      have w2' := IntWalk.u64_in (D.blocks : Int) (by omega)
      by_cases hb : D.blocks < n
      · rw [h30 (by omega) hb]
        have e1 : decide ((D.blocks : Int) < (n : Int)) = true := by simp; omega
        have e2 : decide (D.blocks < n) = true := by simp; omega
        clear h2 h30 hok h0 hb hf hfit
        generalize D.blocks = db at *
        go_enter Try.func31, Try.ntmps31
        go_wp2_with fail
        refine HNO.out.mono ?_
        rintro e w1 ⟨rfl, rfl⟩
        go_wp2_with fail
        refine bodyPost_ret (results_tmp3 rfl _ _ _) rfl ?_
        exact ⟨_, rfl, A125.nil _ _, H.out.top (Keep.refl _ _), KeepZ.refl _ _⟩
      · rw [hok (by omega) hb]
        have e1 : decide ((D.blocks : Int) < (n : Int)) = false := by simp; omega
        have e2 : decide (D.blocks < n) = false := by simp; omega
        have w3' := IntWalk.u32_in (n : Int) (by omega)
        have HB := Lib.hid (dbegin_any B hi g a n now true data D w H.out hfit hb32 few ha (by omega) (fun _ => by omega))
        clear h2 h30 hok h0 hb hf hfit
        generalize D.blocks = db at *
        generalize dbegin D a n true data now = res at *
        go_enter Try.func31, Try.ntmps31
        go_wp2_with fail
        refine HNO.out.mono ?_
        rintro e w1 ⟨rfl, rfl⟩
        go_wp2_with fail
        refine HB.out.mono ?_
        rintro e w2 ⟨v, rfl, ha, hd, hk⟩
        go_wp2_with fail
        refine bodyPost_ret (results_tmp3 rfl _ _ _) rfl ?_
        exact ⟨v, rfl, ha, hd, hk⟩
    · rw [h2 (.inr hr0)]
      have e1 : ((r : Int) != 0) = true := by rw [bne_iff_ne]; omega
      have e2 : ((r : Int) == 0) = false := beq_eq_false_iff_ne.2 (by omega)
      clear h2 h30 hok hsz h0 hr0
      go_enter Try.func31, Try.ntmps31
      go_wp2_with fail
      refine HNO.out.mono ?_
      rintro e w1 ⟨rfl, rfl⟩
      go_wp2_with fail
      refine bodyPost_ret (results_tmp3 rfl _ _ _) rfl ?_
      exact ⟨_, rfl, A125.nil _ _, H.out.top (Keep.refl _ _), KeepZ.refl _ _⟩
set_option maxRecDepth 100000 in
theorem dread_any (B hi g a c now : Nat) (D : DD) (w : World) (h : DAt X B hi w g D) (hfit : dfit D.per D.blocks D.chunks.length = true) (hb32 : D.blocks < 4294967296) (few : D.ts.length ≤ 1048575)
    (ha : a < 4294967296) (hc : c < 4294967296) :
    Calls Try.prog 32 #[.pointer (some ⟨g, 0, none⟩), .int .u32 (a : Nat), .int .u32 (c : Nat), .int .u64 (now : Nat)] w fun e w' => ∃ v, e = .returned (.tuple #[.int .u64 ((dread D a c now).1 : Nat), v, .int .i64 ((dread D a c now).2.2.1 : Nat)]) ∧
      A125 w w' v (dread D a c now).2.1 ∧ DAt X B w'.heap.size w' g (dread D a c now).2.2.2 ∧ KeepZ (TP X B) w w' := by
  have hf := (dfit_iff _ _ _).1 hfit
  have HNO := Lib.hid (h.notnone (by omega))
  have HB := Lib.hid (dbegin_any B hi g a c now false ByteArray.empty D w h hfit hb32 few ha hc (fun e => by cases e))
  unfold dread
  clear h hf hfit ha hc
  generalize dbegin D a c false ByteArray.empty now = res at *
  go_enter Try.func32, Try.ntmps32
  go_wp2_with fail
  refine HNO.out.mono ?_
  rintro e w1 ⟨rfl, rfl⟩
  go_wp2_with fail
  refine HB.out.mono ?_
  rintro e w2 ⟨v, rfl, ha, hd, hk⟩
  go_wp2_with fail
  refine bodyPost_ret (results_tmp3 rfl _ _ _) rfl ?_
  exact ⟨v, rfl, ha, hd, hk⟩
end Go.Proofs.Ytimdaioojnohmaa
