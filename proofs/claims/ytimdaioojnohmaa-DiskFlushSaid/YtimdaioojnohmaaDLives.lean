/-
  keelsonlaw39.lives walked.
-/
import Derived.Test.YtimdaioojnohmaaDWrite
import Derived.Test.YtimdaioojnohmaaDInv
import Derived.Test.YtimdaioojnohmaaQLives
namespace Go.Proofs.Ytimdaioojnohmaa
open Go.RowKit Go.Maps

theorem split_lives : split 3 3 4 8 = [⟨0, 3, 1, 0⟩, ⟨1, 0, 2, 1⟩] := by
  have h : cut 4 8 3 3 0 = [⟨0, 3, 1, 0⟩, ⟨1, 0, 2, 1⟩] := by
    rw [cut_step (by decide) (by decide) (by decide)]
    show _ :: cut 4 8 3 3 1 = _
    rw [cut_step (by decide) (by decide) (by decide)]
    show _ :: _ :: cut 4 8 3 3 3 = _
    rw [cut_end (by decide)]
    rfl
  unfold split
  rw [if_neg (by decide), h]
  rfl
abbrev LW : ByteArray := ⟨#[97, 97, 97, 97, 97, 97, 97, 97, 98, 98, 98, 98, 98, 98, 98, 98, 99, 99, 99, 99, 99, 99, 99, 99]⟩
def LA (t0 t1 : Bool) : List DPart := [⟨1, 0, 5, 3, 1, true, ⟨#[97, 97, 97, 97, 97, 97, 97, 97]⟩, t0, ByteArray.empty⟩, ⟨1, 1, 6, 0, 2, true, ⟨#[98, 98, 98, 98, 98, 98, 98, 98, 99, 99, 99, 99, 99, 99, 99, 99]⟩, t1, ByteArray.empty⟩]
def L0 : DD := ⟨4, 8, [5, 6], 4, 5, [], []⟩
def L1 (t0 : Bool) : DD := ⟨4, 8, [5, 6], 4, 5, [(1, 0)], [⟨LA t0 false, true, [], 1⟩]⟩
def L2 : DD := ⟨4, 8, [5, 6], 4, 5, [], [⟨LA true true, true, [], 2⟩]⟩
theorem lives_write : dwrite L0 3 LW 0 = (1, LA false false, 0, L1 false) := by
  have h1 : ¬ (LW.size / 8 = 0 ∨ LW.size % 8 ≠ 0) := by decide
  have h2 : ¬ L0.blocks < LW.size / 8 := by decide
  rw [dwrite_ok _ _ _ _ h1 h2]
  show dbegin L0 3 3 true LW 0 = _
  have hs : split 3 3 L0.per 8 = [⟨0, 3, 1, 0⟩, ⟨1, 0, 2, 1⟩] := split_lives
  rw [dbegin_ok _ _ _ _ _ _ (by decide) (by rw [hs]; decide) (LA false false) (by rw [hs]; rfl)]
  rfl
theorem lives_told0 : dtold (L1 false) 1 0 ByteArray.empty = (0, L1 true) := rfl
theorem lives_told1 : dtold (L1 true) 1 1 ByteArray.empty = (0, L2) := rfl
theorem A125.row {w0 w w' : World} {v : Value} {l : List DPart} {T : Nat → Option TypeId → Prop} (h : A125 w0 w v l) (hk : KeepZ T w w') (hT : ∀ k, ¬ T k (some 125)) : A125 w0 w' v l := by
  obtain ⟨A, k, rfl, ho, hb⟩ := h
  exact ⟨A, k, rfl, hk.row ho (fun i _ => hT i), hb⟩
theorem A125.at_ {w0 w : World} {v : Value} {l : List DPart} (h : A125 w0 w v l) (hl : 0 < l.length) : ∃ b k, v = .slice (some ⟨b, 0, none⟩) l.length k ∧ l.length ≤ k ∧ ∀ i j u, (hi : i < l.length) → j < 7 → (acells l[i])[j]? = some u → w.cell? ⟨b, i * 7 + j, none⟩ = some u := by
  obtain ⟨A, k, rfl, ho, hb⟩ := h
  rcases ho.2 with ⟨hv, h0⟩ | ⟨g, cap, cur, hv, _, hg, hc, _⟩
  · omega
  · injection hv with hA _ hk
    subst hA hk
    refine ⟨g, k, rfl, hc, fun i j u hi hj hu => ?_⟩
    have := ho.cells (g := g) rfl (i * 7 + j) u ((flat_get acells 7 acells_len l i j hi hj).trans hu)
    rwa [Addr.add_at, Nat.zero_add] at this
theorem noTP125 {X : Nat → Prop} (B : Nat) : ∀ k, ¬ TP X B k (some 125) := fun k ⟨_, h⟩ => by rcases h with h | h | h | h | h | h <;> simp at h
set_option maxRecDepth 100000 in
set_option maxHeartbeats 2000000 in
theorem lives39_any (w : World) : Calls Try.prog 20 #[] w fun e w' => e = .returned (.bool true) ∧ Keep No w w' := by
  have hI0 : DI L0 := DI.new 4 8 4 5 [5, 6] rfl (by decide) (by decide)
  have hI1 : DI (L1 false) := by have := hI0.write 3 LW 0 (by decide) (by decide); rw [lives_write] at this; exact this
  have hI2 : DI (L1 true) := by have := (hI1.toldAll 1 0 ByteArray.empty (by decide)).1; rw [lives_told0] at this; exact this
  have hI3 : DI L2 := by have := (hI2.toldAll 1 1 ByteArray.empty (by decide)).1; rw [lives_told1] at this; exact this
  have k1 : Keep No w (w.alloc (.cells #[.int .u64 5, .int .u64 6] 29)) := (Keep.refl _ _).alloc _
  have hrd : Rd (w.alloc (.cells #[.int .u64 5, .int .u64 6] 29)) (.slice (some ⟨w.heap.size, 0, none⟩) 2 2) [5, 6].length ([5, 6].map u64v) := Rd.of (Sl.lit w #[.int .u64 5, .int .u64 6] 29 2)
  have HN := Lib.hid (dnew_any 4 8 5 4 _ [5, 6] _ (by decide) (by decide) (by decide) (by decide) (by decide) (by decide) hrd (by decide) rfl (X := No) (fun _ h => h.elim))
  have K1 := Lib.hid k1
  have HI0 := Lib.hid hI0
  have HI1 := Lib.hid hI1
  have HI2 := Lib.hid hI2
  have HI3 := Lib.hid hI3
  clear hI0 hI1 hI2 hI3 hrd k1
  go_enter Try.func20, Try.ntmps20
  go_wp2_with fail
  refine HN.out.mono ?_
  rintro e w1 ⟨g, rfl, hd, k2⟩
  obtain ⟨B, hB⟩ : ∃ B, B = (w.alloc (.cells #[.int .u64 5, .int .u64 6] 29)).heap.size := ⟨_, rfl⟩
  rw [← hB] at hd
  have hBw : w.heap.size ≤ B := by rw [hB]; exact K1.out.size
  have hw := dwrite_any B _ g 3 0 LW L0 w1 hd HI0.out.fit HI0.out.b32 (by decide) (by decide) (by decide)
  rw [lives_write] at hw
  have HW := Lib.hid hw
  have K2 := Lib.hid (K1.out.trans k2)
  clear hd hw k2 hB
  go_wp2_with fail
  refine HW.out.mono ?_
  rintro e w2 ⟨v, rfl, hv, hd, k3⟩
  try simp only at hv hd
  have ht := dtold_any B _ g 1 0 ByteArray.empty (L1 false) w2 hd (by decide) (by decide) HI1.out.sm HI1.out.wok (by decide)
  rw [lives_told0] at ht
  have HT := Lib.hid ht
  have hv0 := hv
  obtain ⟨A, kk, rfl, -, -⟩ := hv0
  have HV := Lib.hid hv
  have K3 := Lib.hid ((KeepZ.of (T := TP No B) K2.out).trans k3)
  clear hd ht hv k3
  go_wp2_with fail
  refine HT.out.mono ?_
  rintro e w3 ⟨rfl, hd, k4⟩
  try simp only at hd
  have ht := dtold_any B _ g 1 1 ByteArray.empty (L1 true) w3 hd (by decide) (by decide) HI2.out.sm HI2.out.wok (by decide)
  rw [lives_told1] at ht
  have HT2 := Lib.hid ht
  have HV2 := Lib.hid (HV.out.row k4 (noTP125 B))
  have K4 := Lib.hid (K3.out.trans k4)
  clear hd ht k4
  go_wp2_with fail
  refine HT2.out.mono ?_
  rintro e w4 ⟨rfl, hd, k5⟩
  try simp only at hd
  have hs := dstate_any B _ g 1 L2 w4 hd (by decide) (by decide) HI3.out.sm
  rw [show dstate L2 1 = (2, ByteArray.empty) from rfl] at hs
  have HS := Lib.hid hs
  have HV3 := Lib.hid (HV2.out.row k5 (noTP125 B))
  have K5 := Lib.hid (K4.out.trans k5)
  clear hd hs k5
  go_wp2_with fail
  refine HS.out.mono ?_
  rintro e w5 ⟨rfl, k6⟩
  obtain ⟨b, k, hsl, hk, hc⟩ := (HV3.out.keep k6).at_ (by decide)
  have hA : A = some ⟨b, 0, none⟩ ∧ kk = k := by
    simp at hsl
    exact ⟨hsl.1, hsl.2⟩
  obtain ⟨rfl, rfl⟩ := hA
  have c2 : w5.cell? ⟨b, 2, none⟩ = some (.int .u64 5) := hc 0 2 _ (by decide) (by decide) rfl
  have c9 : w5.cell? ⟨b, 9, none⟩ = some (.int .u64 6) := hc 1 2 _ (by decide) (by decide) rfl
  have c10 : w5.cell? ⟨b, 10, none⟩ = some (.int .u32 0) := hc 1 3 _ (by decide) (by decide) rfl
  have c11 : w5.cell? ⟨b, 11, none⟩ = some (.int .u32 2) := hc 1 4 _ (by decide) (by decide) rfl
  have c13 : w5.cell? ⟨b, 13, none⟩ = some (.string ⟨#[98, 98, 98, 98, 98, 98, 98, 98, 99, 99, 99, 99, 99, 99, 99, 99]⟩) := hc 1 6 _ (by decide) (by decide) rfl
  have K6 := Lib.hid (K5.out.then k6)
  clear hc hsl hk k6
  go_wp2_with fail
  go_ret
  exact ⟨rfl, K6.out.no (fun k s h => Nat.le_trans hBw h.1)⟩
end Go.Proofs.Ytimdaioojnohmaa
