/-
  disk.New and (*Disk).add walked.
-/
import Derived.Test.YtimdaioojnohmaaDFun
import Derived.Deep.RegionHeld3
namespace Go.Proofs.Ytimdaioojnohmaa
open Go.RowKit Go.Maps
variable {X : Nat → Prop}

theorem dnew_bad (per blocks n : Nat) (a : Int) (v : Value) (l : List Nat) (w : World) (hp : per < 4294967296) (hb : blocks < 4294967296) (hn : n < 18446744073709551616) (ha : -9223372036854775808 ≤ a ∧ a ≤ 9223372036854775807)
    (h : Rd w v l.length (l.map u64v)) (hl : l.length ≤ 1048576) (hbad : (a < 1 ∨ 64 < a ∨ n = 0) ∨ dfit per blocks l.length = false) :
    Calls Try.prog 21 #[.int .u32 per, .int .u32 blocks, v, .int .i64 a, .int .u64 n] w fun e w' => e = .returned (.pointer none) ∧ Keep No w w' := by
  obtain ⟨A, c, rfl, hlc, -⟩ := id h
  by_cases h1 : a < 1 ∨ 64 < a ∨ n = 0
  · have HN := Lib.hid (qnew_bad a n w h1 ha.1 ha.2)
    clear ha hn h h1 hbad hp hb
    go_enter Try.func21, Try.ntmps21
    go_wp2_with fail
    refine HN.out.mono ?_
    rintro e w1 ⟨rfl, rfl⟩
    go_wp2_with fail
    go_ret
    exact ⟨rfl, Keep.refl _ _⟩
  · have hf : dfit per blocks l.length = false := hbad.resolve_left h1
    obtain ⟨most, rfl⟩ := Int.eq_ofNat_of_zero_le (show 0 ≤ a by omega)
    have HN := Lib.hid (qnew_any most n w (by omega) (by omega) (by omega) hn)
    have hft := fun W => fits_any per blocks A l.length c W hp hb (by omega)
    rw [hf] at hft
    have HF := Lib.hid hft
    clear ha hn h h1 hbad hp hb hft hf
    go_enter Try.func21, Try.ntmps21
    go_wp2_with fail
    refine HN.out.mono ?_
    rintro e w1 ⟨rfl, -, hw⟩
    have k1 : Keep No w w1 := by rw [hw]; exact (Keep.refl _ _).alloc _
    clear hw
    go_wp2_with fail
    refine (HF.out _).mono ?_
    rintro e w2 ⟨rfl, rfl⟩
    go_wp2_with fail
    go_ret
    exact ⟨rfl, k1⟩
theorem dnew_any (per blocks n most : Nat) (v : Value) (l : List Nat) (w : World) (hp : per < 4294967296) (hb : blocks < 4294967296) (hn : n < 18446744073709551616) (h0 : 0 < most) (h64 : most ≤ 64) (hn0 : 0 < n)
    (h : Rd w v l.length (l.map u64v)) (hl : l.length ≤ 1048576) (hf : dfit per blocks l.length = true) (hX : ∀ k, X k → k < w.heap.size) :
    Calls Try.prog 21 #[.int .u32 per, .int .u32 blocks, v, .int .i64 most, .int .u64 n] w fun e w' => ∃ g, e = .returned (.pointer (some ⟨g, 0, none⟩)) ∧ DAt X w.heap.size w'.heap.size w' g ⟨per, blocks, l, most, n, [], []⟩ ∧ Keep No w w' := by
  obtain ⟨A, c, rfl, hlc, -⟩ := id h
  have hne : l ≠ [] := by
    rintro rfl
    unfold dfit at hf
    simp at hf
  have HN := Lib.hid (qnew_any most n w h0 h64 hn0 hn)
  have hft := fun W => fits_any per blocks A l.length c W hp hb (by omega)
  rw [hf] at hft
  have HF := Lib.hid hft
  have H := Lib.hid h
  have H0 := Lib.hid h0
  have HL := Lib.hid hl
  have HNE := Lib.hid hne
  have hmm := @run_makeMap Try.prog
  clear h hp hb hn h0 h64 hn0 hft hf hl hne
  go_enter Try.func21, Try.ntmps21
  go_wp2_with fail
  refine HN.out.mono ?_
  rintro e w1 ⟨rfl, hq, hw⟩
  have k1 : Keep No w w1 := by rw [hw]; exact (Keep.refl _ _).alloc _
  have HQ := Lib.hid hq
  clear hw hq
  go_wp2_with fail
  refine (HF.out _).mono ?_
  rintro e w2 ⟨rfl, rfl⟩
  have HC := Lib.hid (clone_any _ l w1 (H.out.keep k1) HNE.out HL.out)
  go_wp2_with fail
  refine HC.out.mono ?_
  rintro e w2 ⟨r, rfl, hr, k2⟩
  obtain ⟨A2, c2, rfl, ho2, hA2⟩ := hr
  have HO2 := Lib.hid ho2
  have HX2 : Hid (∀ k, (Value.slice A2 l.length c2).ownBlock = some k → ¬ X k) := fun k hk e => by
    have a1 := hA2 k hk
    have a2 := hX k e
    have a3 := k1.size
    omega
  clear ho2 hA2
  go_wp2_with fail
  go_ret
  have k3 : Keep No w2 ((w2.alloc (.map #[] 0)).alloc (.cells #[.pointer (some ⟨w.heap.size, 0, none⟩), .int .u32 (per : Nat), .int .u32 (blocks : Nat), .slice A2 l.length c2, .map (some w2.heap.size), .int .u64 0] 71)) := ((Keep.refl _ _).alloc _).alloc _
  have hs := (k1.trans k2).size
  refine ⟨_, rfl, ⟨w.heap.size, _, w2.heap.size, fun _ => none, fun _ => w2.heap.size, fun _ => 0, blk_at _ _ (by simp), by omega, (HQ.out.no k2).no k3, H0.out, ⟨⟨A2, c2, rfl, own_keep HO2.out k3 (fun _ _ h => h)⟩, HX2.out⟩,
    (MapP.made w2).no ((Keep.refl _ _).alloc _), ⟨hs, fun e => absurd (hX _ e) (Nat.not_lt.2 hs)⟩, fun _ _ => rfl, fun i hi => absurd hi (by simp), fun _ => Nat.le_refl _, hs, by simp; omega, Nat.le_refl _⟩, (k1.trans k2).trans k3⟩
end Go.Proofs.Ytimdaioojnohmaa
