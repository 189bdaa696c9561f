/-
  ChartParts walked.
-/
import Derived.Test.YtimdaioojnohmaaWhole
namespace Go.Proofs.Ytimdaioojnohmaa
open Go.RowKit

theorem cut_spec (per most a c : Nat) : ∀ d off, c - off = d → ∀ i (h : i < (cut per most a c off).length),
    (cut per most a c off)[i].off = off + total ((cut per most a c off).take i) ∧ (cut per most a c off)[i].off < c ∧
    (cut per most a c off)[i].ch = (a + (cut per most a c off)[i].off) / per ∧ (cut per most a c off)[i].bl = (a + (cut per most a c off)[i].off) % per ∧
    (cut per most a c off)[i].n = piece per most a c (cut per most a c off)[i].off ∧ 0 < (cut per most a c off)[i].n := by
  intro d
  induction d using Nat.strongRecOn with
  | _ d ih =>
    intro off hd i h
    by_cases hc : off < c ∧ 0 < piece per most a c off
    · have e : cut per most a c off = ⟨(a + off) / per, (a + off) % per, piece per most a c off, off⟩ :: cut per most a c (off + piece per most a c off) := by rw [cut, dif_pos hc]
      cases i with
      | zero =>
        simp only [e, List.getElem_cons_zero, List.take_zero]
        exact ⟨by simp [total], hc.1, trivial, trivial, trivial, hc.2⟩
      | succ i =>
        have h' : i < (cut per most a c (off + piece per most a c off)).length := by rw [e] at h; simpa using h
        have := ih (c - (off + piece per most a c off)) (by omega) (off + piece per most a c off) rfl i h'
        simp only [e, List.getElem_cons_succ, List.take_succ_cons]
        refine ⟨?_, this.2⟩
        rw [this.1]
        show _ = off + (piece per most a c off + total _)
        omega
    · exfalso
      rw [cut, dif_neg hc] at h
      simp at h
theorem div_same (x n per : Nat) (h : x % per + n ≤ per) (hn : 0 < n) : x / per = (x + n - 1) / per := by
  have hp : 0 < per := by omega
  have e : x + n - 1 = (x % per + n - 1) + per * (x / per) := by have := Nat.div_add_mod x per; omega
  rw [e, Nat.add_mul_div_left _ _ hp, Nat.div_eq_of_lt (show x % per + n - 1 < per by omega)]
  omega

/-- What a part is. -/
structure GoodPart (a c per most : Nat) (p : CPart) (at_ : Nat) : Prop where
  off : p.off = at_
  block : p.ch * per + p.bl = a + at_
  bl : p.bl < per
  ch : p.ch ≤ 4294967296
  lt : a + at_ < 4294967296
  pos : 0 < p.n
  most : p.n ≤ most
  inC : p.bl + p.n ≤ per
  le : at_ + p.n ≤ c
theorem split_good (a c per most : Nat) (i : Nat) (h : i < (split a c per most).length) : GoodPart a c per most (split a c per most)[i] (total ((split a c per most).take i)) := by
  by_cases hbad : per = 0 ∨ most = 0 ∨ 4294967296 < a + c
  · exfalso; unfold split at h; rw [if_pos hbad] at h; simp at h
  by_cases hlen : (cut per most a c 0).length ≤ 4096
  · have e : split a c per most = cut per most a c 0 := by unfold split; rw [if_neg hbad, if_pos hlen]
    rw [e] at h
    have hs := cut_spec per most a c _ 0 rfl i h
    simp only [e]
    generalize (cut per most a c 0)[i] = p at *
    generalize total (List.take i (cut per most a c 0)) = t at *
    obtain ⟨h1, h2, h3, h4, h5, h6⟩ := hs
    have hm := Nat.mod_lt (a + p.off) (show 0 < per by omega)
    have hdm := Nat.div_add_mod (a + p.off) per
    unfold piece at h5
    refine ⟨by omega, ?_, ?_, ?_, by omega, h6, by omega, by omega, by omega⟩
    · rw [h3, h4, Nat.mul_comm]; omega
    · omega
    · rw [h3]; exact Nat.le_trans (Nat.div_le_self _ _) (by omega)
  · exfalso; unfold split at h; rw [if_neg hbad, if_neg hlen] at h; simp at h

set_option maxRecDepth 100000 in
set_option maxHeartbeats 1600000 in
theorem parts_any (a c per most : Nat) (w : World) (ha : a < 4294967296) (hc : c < 4294967296) (hp : per < 4294967296) (hm : most < 4294967296) :
    Calls Try.prog 4 #[.agg #[.int .u32 a, .int .u32 c], .int .u32 per, .int .u32 most] w fun e w' => e = .returned (.bool true) ∧ Keep No w w' := by
  go_enter Try.func4, Try.ntmps4
  go_wp2_with fail
  refine (split_all a c per most _ ha hc hp hm).mono ?_
  rintro e w1 ⟨v, rfl, hv, hk1⟩
  have hcs := hk1.blk (blk_at w (.cells #[.int .u32 (a : Nat), .int .u32 (c : Nat)] 24) rfl) (fun h => h)
  have hgood := split_good a c per most
  have hlen := split_len a c per most
  have htot := split_total a c per most
  have htot2 := split_total_le a c per most
  have hk0 : Keep No w w1 := ((Keep.refl No w).alloc _).trans hk1
  have HV := Lib.hid hv
  obtain ⟨A, k, rfl, -, -⟩ := hv
  clear hk1
  have HG := Lib.hid hgood
  have HT := Lib.hid htot
  have HC := Lib.hid hcs
  clear hgood htot hcs
  generalize split a c per most = l at *
  go_wp2_with fail
  go_loopw [19, 8] (fun iv tv wr => ∃ i, i ≤ l.length ∧ iv = .int .i64 (i : Nat) ∧ tv = .int .u64 (total (l.take i) : Nat) ∧ Keep No w1 wr) (fun iv _ _ => l.length - (intOf iv).toNat)
  case atStart => exact ⟨0, Nat.zero_le _, rfl, rfl, Keep.refl _ _⟩
  case round =>
    obtain ⟨i, hi, rfl, rfl, hk⟩ := hrel
    have hcs := hk.blk HC.out (fun h => h)
    have s0 := (blk_cell hcs 0).trans rfl
    have s1 := (blk_cell hcs 1).trans rfl
    clear hcs
    by_cases hlt : i < l.length
    · obtain ⟨b, k', hv, hk', c0, c1, c2⟩ := (HV.out.keep hk).at_ i hlt
      injection hv with hA _ hkk
      subst hA hkk
      have hs := total_succ l i hlt
      obtain ⟨g1, g2, g3, g4, g5, g6, g7, g8, g9⟩ := HG.out i hlt
      rw [g1] at c2
      have hbl := blockS_F _ _ per g3 (by rw [g2]; exact g5) g4 hp
      rw [g2] at hbl
      have hcb := fun W => block_any (F l[i].ch) (F l[i].bl) per W hp
      rw [hbl] at hcb
      simp only at hcb
      have CB := Lib.hid hcb
      have hdiv : (a + total (l.take i)) / per = (a + total (l.take i) + l[i].n - 1) / per := div_same _ _ _ (by rw [← g2, Nat.mul_comm, Nat.mul_add_mod, Nat.mod_eq_of_lt g3]; exact g8) g6
      have HD := Lib.hid hdiv
      have HS := Lib.hid hs
      clear hs hbl hcb hdiv g1 g2
      generalize total (l.take i) = t at *
      generalize l[i].n = N at *
      generalize l[i].ch = C at *
      generalize l[i].bl = Bl at *
      have rsc := fun (W : World) (p : Addr) => run_store Try.prog W p (.complex .f64 (F C) (F Bl)) .plain rfl
      go_wp2_with fail
      refine (CB.out _).mono ?_
      rintro e w2 ⟨rfl, rfl⟩
      go_wp2_with fail
      have hw3 : w.heap.size < wr.heap.size := World.block_lt_of_cell? wr _ s0
      have hN0 : ((N : Int) == 0) = false := by simp; omega
      have hN1 : decide ((most : Int) < (N : Int)) = false := by simp; omega
      have hpn : ¬ per = 0 := by omega
      have q1 : ((a : Int) + (t : Int)).tdiv (per : Int) = (((a + t) / per : Nat) : Int) := by rw [Int.tdiv_eq_ediv_of_nonneg (by omega)]; rfl
      have q2 : ((a : Int) + (t : Int) + (N : Int) - 1).tdiv (per : Int) = (((a + t) / per : Nat) : Int) := by
        rw [Int.tdiv_eq_ediv_of_nonneg (by omega), HD.out, show (a : Int) + (t : Int) + (N : Int) - 1 = ((a + t + N - 1 : Nat) : Int) by omega]
        rfl
      have hQ : (a + t) / per ≤ a + t := Nat.div_le_self _ _
      generalize (a + t) / per = Qt at *
      have w1' := IntWalk.u64_in (a : Int) (by omega)
      have w2' := IntWalk.u64_in ((a : Int) + (t : Int)) (by omega)
      have w3' := IntWalk.u64_in (N : Int) (by omega)
      have w4' := IntWalk.u64_in (t : Int) (by omega)
      have w5' := IntWalk.u64_in ((a : Int) + (t : Int) + (N : Int)) (by omega)
      have w6' := IntWalk.u64_in ((a : Int) + (t : Int) + (N : Int) - 1) (by omega)
      have w7' := IntWalk.u64_in (Qt : Int) (by omega)
      have w8' := IntWalk.u64_in (per : Int) (by omega)
      go_quiet (fail)
      clear q1 q2 w1' w2' w3' w4' w5' w6' w7' w8'
      go_wp2_with fail
      exact ⟨⟨i + 1, by omega, by simp, by rw [HS.out]; simp, (hk.alloc _).drewN _⟩, by simp [intOf]; omega⟩
    · obtain rfl : i = l.length := by omega
      rw [List.take_length]
      have hwh := whole_any _ _ _ _ (HV.out.keep hk) hlen (by omega)
      have HW := Lib.hid hwh
      clear hwh
      by_cases hl0 : l.length = 0
      · have hl0' : ((l.length : Int) == 0) = true := beq_iff_eq.2 (by omega)
        clear hl0
        go_wp2_with fail
        refine HW.out.mono ?_
        rintro e w2 ⟨rfl, rfl⟩
        go_wp2_with fail
        refine (lives_any _).mono ?_
        rintro e w3 ⟨rfl, hk3⟩
        go_wp2_with fail
        go_ret
        exact ⟨rfl, (hk0.trans hk).trans hk3⟩
      · have hl0' : ((l.length : Int) == 0) = false := beq_eq_false_iff_ne.2 (by omega)
        have ht : total l = c := HT.out (fun e => hl0 (by rw [e]; rfl))
        clear hl0
        rw [ht] at HW ⊢
        clear ht htot2
        go_wp2_with fail
        refine HW.out.mono ?_
        rintro e w2 ⟨rfl, rfl⟩
        go_wp2_with fail
        refine (lives_any _).mono ?_
        rintro e w3 ⟨rfl, hk3⟩
        go_wp2_with fail
        go_ret
        exact ⟨rfl, (hk0.trans hk).trans hk3⟩
end Go.Proofs.Ytimdaioojnohmaa
