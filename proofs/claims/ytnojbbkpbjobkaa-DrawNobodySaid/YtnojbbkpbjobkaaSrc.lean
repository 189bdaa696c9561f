/-
  Sources of bytes: Left, Byte and Num walked.
-/
import Derived.Test.YtnojbbkpbjobkaaRows
import Derived.Test.YtnojbbkpbjobkaaBase
import Derived.Laws.BitsAllLaws
namespace Go.Proofs.Ytnojbbkpbjobkaa
open Go.RowKit

/-- Bytes in memory, of which a source is left. -/
def Src (w : World) (g : Nat) (bs : List UInt8) : Prop :=
  ∃ A c, w.heap[g]? = some (.cells #[.slice A bs.length c] 31 (0, 0)) ∧ bs.length ≤ c ∧
    ∀ i x, bs[i]? = some x → ∃ b o, A = some ⟨b, o, none⟩ ∧ b ≠ g ∧ w.cell? ⟨b, o + i, none⟩ = some (.int .u8 x.toNat)
def SrcP (w : World) (p : Option Addr) (bs : List UInt8) : Prop := match p with
  | none => bs = []
  | some a => a = ⟨a.block, 0, none⟩ ∧ Src w a.block bs
def at_ (p : Option Addr) : Nat → Prop := fun k => p.map (·.block) = some k

theorem left_any (p : Option Addr) (bs : List UInt8) (w : World) (h : SrcP w p bs) : Calls Try.prog 8 #[.pointer p] w fun e w' => e = .returned (.int .i64 bs.length) ∧ w = w' := by
  cases p with
  | none =>
    obtain rfl : bs = [] := h
    go_enter Try.func8, Try.ntmps8
    go_wp2
    go_ret
    exact ⟨rfl, rfl⟩
  | some a =>
    obtain ⟨ha, A, c, hb, hc, hx⟩ := h
    generalize a.block = g at *
    subst ha
    have hcell := (blk_cell hb 0).trans rfl
    clear hx
    go_enter Try.func8, Try.ntmps8
    go_wp2
    go_ret
    exact ⟨rfl, rfl⟩

theorem byte_any (p : Option Addr) (bs : List UInt8) (w : World) (h : SrcP w p bs) : Calls Try.prog 10 #[.pointer p] w fun e w' =>
    e = .returned (.int .u8 (bs.headD 0).toNat) ∧ SrcP w' p bs.tail ∧ Keep (at_ p) w w' := by
  cases bs with
  | nil =>
    have h0 := left_any p [] w h
    go_enter Try.func10, Try.ntmps10
    go_wp2_with (go_at_call 8; refine h0.mono ?_; rintro e w' ⟨rfl, rfl⟩)
    go_ret
    exact ⟨rfl, h, Keep.refl _ _⟩
  | cons x bs =>
    have h0 := left_any p _ w h
    cases p with
    | none => cases h
    | some a =>
      obtain ⟨ha, A, c, hb, hc, hx⟩ := h
      generalize a.block = g at *
      subst ha
      obtain ⟨b, o, rfl, hbg, hx0⟩ := hx 0 x rfl
      rw [Nat.add_zero] at hx0
      have hcell := (blk_cell hb 0).trans rfl
      have hfr := blk_free hb 0
      have hn : 0 < (x :: bs).length := by simp
      have HX := Lib.hid hx
      clear hx
      have HB := Lib.hid hb
      clear hb
      generalize hl : (x :: bs).length = n at *
      have HL := Lib.hid hl
      clear hl
      go_enter Try.func10, Try.ntmps10
      go_wp2_with (go_at_call 8; refine h0.mono ?_; rintro e w' ⟨rfl, rfl⟩)
      all_goals go_ret
      all_goals
        have hb := HB.out
        have hl := HL.out
        have hx := HX.out
        rw [List.length_cons] at hl
        refine ⟨rfl, ⟨rfl, ?_⟩, (Keep.refl (at_ (some ⟨g, 0, none⟩)) _).setCell (fun _ => rfl) _⟩
      · obtain rfl : n = 1 := by omega
        obtain rfl : bs = [] := List.eq_nil_of_length_eq_zero (by omega)
        exact ⟨_, _, blk_set hb 0 _, Nat.zero_le _, fun i y hy => absurd hy (by simp)⟩
      · refine ⟨some ⟨b, o + 1, none⟩, c - 1, ?_, (by show bs.length ≤ c - 1; omega), fun i y hy => ⟨b, o + 1, rfl, hbg, ?_⟩⟩
        · have := blk_set hb 0 (.slice (some ⟨b, o + 1, none⟩) (n - 1) (c - 1))
          rw [show n - 1 = bs.length by omega] at this ⊢
          exact this
        · obtain ⟨b', o', h1, h2, h3⟩ := hx (i + 1) y (by simpa using hy)
          injection h1 with h1
          injection h1 with h1 h4
          subst h1 h4
          rw [World.cell?_setCell_other _ _ _ _ (by simp)]
          rw [show o + 1 + i = o + (i + 1) by omega]
          exact h3

/-- A number out of bytes, the highest first, as many as m needs. -/
def numX (m x : Nat) (bs : List UInt8) : Nat × List UInt8 := if _h : 0 < m then numX (m / 256) (x * 256 + (bs.headD 0).toNat) bs.tail else (x, bs)
termination_by m
decreasing_by omega
def numN (n : Int) (bs : List UInt8) : Nat × List UInt8 := if n < 2 then (0, bs) else ((numX (n - 1).toNat 0 bs).1 % n.toNat, (numX (n - 1).toNat 0 bs).2)
theorem numX_pos (m x : Nat) (bs : List UInt8) (h : 0 < m) : numX m x bs = numX (m / 256) (x * 256 + (bs.headD 0).toNat) bs.tail := by rw [numX, dif_pos h]
theorem numX_zero (x : Nat) (bs : List UInt8) : numX 0 x bs = (x, bs) := by rw [numX, dif_neg (by omega)]

theorem or_byte (X b : Nat) (hb : b < 256) (h : X * 256 + b < 18446744073709551616) : bits .or .u64 (IntKind.u64.wrap ((X : Int) * 256)) (IntKind.u64.wrap (b : Int)) = ((X * 256 + b : Nat) : Int) := by
  have e3 := u64_or_nat (X * 256) b (Nat.lt_of_le_of_lt (Nat.le_add_right _ _) h) (Nat.lt_of_le_of_lt (Nat.le_add_left _ _) h)
  have e4 := nat_join 8 (X * 256) b (Nat.mul_mod_left X 256) hb
  rw [IntWalk.u64_in ((X : Int) * 256) (by omega), IntWalk.u64_in (b : Int) (by omega)]
  rw [Int.natCast_mul, show ((256 : Nat) : Int) = 256 from rfl] at e3
  rw [e3, e4]

theorem num_any (p : Option Addr) (bs : List UInt8) (n : Int) (w : World) (h : SrcP w p bs) (h1 : -9223372036854775808 ≤ n) (h2 : n ≤ 9223372036854775807) : Calls Try.prog 6 #[.pointer p, .int .i64 n] w fun e w' =>
    e = .returned (.int .i64 (numN n bs).1) ∧ SrcP w' p (numN n bs).2 ∧ Keep (at_ p) w w' := by
  unfold numN
  by_cases hn : n < 2
  · rw [if_pos hn]
    go_enter Try.func6, Try.ntmps6
    go_wp2_with (fail)
    go_ret
    exact ⟨rfl, h, Keep.refl _ _⟩
  · rw [if_neg hn]
    have H := Lib.hid h
    clear h
    go_enter Try.func6, Try.ntmps6
    go_wp2_with (fail)
    go_loopw [5, 6] (fun x l wr => ∃ m X bs' k j, x = .int .u64 (X : Nat) ∧ l = .int .i64 (m : Nat) ∧ SrcP wr p bs' ∧ Keep (at_ p) w wr ∧ Hid (numX m X bs' = numX (n - 1).toNat 0 bs) ∧ X < 256 ^ k ∧ m < 256 ^ j ∧ k + j = 8) (fun _ l _ => (intOf l).toNat)
    case atStart => exact ⟨(n - 1).toNat, 0, bs, 0, 8, rfl, by rw [Int.toNat_of_nonneg (by omega)], H.out, Keep.refl _ _, rfl, by simp, by omega, rfl⟩
    case round =>
      obtain ⟨m, X, bs', k, j, rfl, rfl, hs, hk, hx, hX, hm, hkj⟩ := hrel
      have hb := byte_any p bs' _ hs
      by_cases h0 : 0 < m
      · obtain ⟨j, rfl⟩ : ∃ i, j = i + 1 := ⟨j - 1, by rcases j with _ | j; simp at hm; omega; omega⟩
        have HX := Lib.hid hX
        have HM := Lib.hid hm
        have HK := Lib.hid hkj
        clear hX hm hkj
        go_wp2_with (go_at_call 10; refine hb.mono ?_; rintro e w' ⟨rfl, hs', hk'⟩)
        have hlt := UInt8.toNat_lt (bs'.headD 0)
        have hX1 : X * 256 + (bs'.headD 0).toNat < 256 ^ (k + 1) := by
          have := HX.out
          rw [Nat.pow_succ]
          omega
        have hX2 : 256 ^ (k + 1) ≤ 256 ^ 8 := Nat.pow_le_pow_right (by omega) (by have := HK.out; omega)
        refine ⟨⟨m / 256, X * 256 + (bs'.headD 0).toNat, bs'.tail, k + 1, j, ?_, ?_, hs', hk.trans hk', ?_, hX1, ?_, by have := HK.out; omega⟩, by simp [intOf]; omega⟩
        · rw [← or_byte X _ (by omega) (by omega)]
          simp
        · simp
        · show numX _ _ _ = _
          rw [← numX_pos m X bs' h0]
          exact hx.out
        · have := HM.out
          rw [Nat.pow_succ] at this
          omega
      · obtain rfl : m = 0 := by omega
        have hx' := hx.out
        rw [numX_zero] at hx'
        go_wp2_with (fail)
        go_ret
        rw [← hx']
        refine ⟨?_, hs, hk⟩
        have hlt : (X : Int) % n < n := Int.emod_lt_of_pos _ (by omega)
        have hge : 0 ≤ (X : Int) % n := Int.emod_nonneg _ (by omega)
        rw [IntWalk.wrap64_in _ (by omega)]
        obtain ⟨n, rfl⟩ := Int.eq_ofNat_of_zero_le (show 0 ≤ n by omega)
        rfl
end Go.Proofs.Ytnojbbkpbjobkaa
