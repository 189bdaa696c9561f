/-
  ChartSplits walked.
-/
import Derived.Test.YtimdaioojnohmaaLives37
import Derived.Test.YtimdaioojnohmaaRefSplit
namespace Go.Proofs.Ytimdaioojnohmaa
open Go.RowKit

theorem RPartsAt.keep {w0 w w' : World} {v : Value} {l : List CPart} (h : RPartsAt w0 w v l) (hk : Keep No w w') : RPartsAt w0 w' v l := by
  obtain ⟨A, k, rfl, ho, hb⟩ := h
  exact ⟨A, k, rfl, own_keep ho hk (fun _ _ h => h), hb⟩
theorem cut_bounds (per most a c : Nat) : ∀ d off, c - off = d → ∀ p ∈ cut per most a c off, p.ch ≤ a + c ∧ p.bl ≤ a + c ∧ p.n ≤ c ∧ p.off ≤ c := by
  intro d
  induction d using Nat.strongRecOn with
  | _ d ih =>
    intro off hd p hp
    rw [cut] at hp
    split at hp
    · rename_i h
      rcases List.mem_cons.1 hp with rfl | hp
      · refine ⟨Nat.le_trans (Nat.div_le_self _ _) (by omega), Nat.le_trans (Nat.mod_le _ _) (by omega), ?_, by show off ≤ c; omega⟩
        show piece per most a c off ≤ c
        unfold piece; omega
      · exact ih (c - (off + piece per most a c off)) (by omega) _ rfl p hp
    · simp at hp
theorem split_bounds (a c per most : Nat) (p : CPart) (hp : p ∈ split a c per most) : p.ch ≤ 4294967296 ∧ p.bl ≤ 4294967296 ∧ p.n ≤ c ∧ p.off ≤ c := by
  unfold split at hp
  split at hp
  · simp at hp
  · split at hp
    · have := cut_bounds per most a c _ 0 rfl p hp; omega
    · simp at hp

set_option maxRecDepth 100000 in
theorem splits_any (a c per most : Nat) (w : World) (ha : a < 4294967296) (hc : c < 4294967296) (hp : per < 4294967296) (hm : most < 4294967296) :
    Calls Try.prog 3 #[.agg #[.int .u32 a, .int .u32 c], .int .u32 per, .int .u32 most] w fun e w' => e = .returned (.bool true) ∧ Keep No w w' := by
  go_enter Try.func3, Try.ntmps3
  go_wp2_with fail
  refine (split_all a c per most _ ha hc hp hm).mono ?_
  rintro e w1 ⟨v, rfl, hv, hk1⟩
  have hcs := hk1.blk (blk_at w (.cells #[.int .u32 (a : Nat), .int .u32 (c : Nat)] 24) rfl) (fun h => h)
  have s0 := (blk_cell hcs 0).trans rfl
  have s1 := (blk_cell hcs 1).trans rfl
  clear hcs
  go_wp2_with fail
  refine (rsplit_all a c per most _ ha hc hp hm).mono ?_
  rintro e w2 ⟨r, rfl, hr, hk2⟩
  have hv2 := hv.keep hk2
  have hbd := split_bounds a c per most
  have hl96 := split_len a c per most
  clear hv
  have HV := Lib.hid hv2
  have HR := Lib.hid hr
  obtain ⟨A, k, rfl, -, -⟩ := hv2
  obtain ⟨A2, k2, rfl, -, -⟩ := hr
  have hk0 : Keep No w w2 := (((Keep.refl No w).alloc _).trans hk1).trans hk2
  clear hk1 hk2 s0 s1
  have HB := Lib.hid hbd
  clear hbd
  generalize split a c per most = l at *
  go_wp2_with fail
  go_loopw [33] (fun iv wr => ∃ i, i ≤ l.length ∧ iv = .int .i64 (i : Nat) ∧ Keep No w2 wr) (fun iv _ => l.length - (intOf iv).toNat)
  case atStart => exact ⟨0, Nat.zero_le _, rfl, Keep.refl _ _⟩
  case round =>
    obtain ⟨i, hi, rfl, hk⟩ := hrel
    by_cases hlt : i < l.length
    · obtain ⟨b, k', hv, hk', c0, c1, c2⟩ := (HV.out.keep hk).at_ i hlt
      obtain ⟨b2, k2', hv2, hk2', r0, r1, r2, r3⟩ := (HR.out.keep hk).at_ i hlt
      injection hv with hA _ hkk
      subst hA hkk
      injection hv2 with hA2 _ hkk2
      subst hA2 hkk2
      obtain ⟨B1, B2, B3, B4⟩ := HB.out l[i] (List.getElem_mem hlt)
      have o1 : FloatKind.f64.format.order (F l[i].ch) (floatOfInt .f64 (l[i].ch : Int)) = some .eq := order_same _ (by omega)
      have o2 : FloatKind.f64.format.order (F l[i].bl) (floatOfInt .f64 (l[i].bl : Int)) = some .eq := order_same _ (by omega)
      clear B1 B2
      generalize l[i].n = N at *
      generalize l[i].off = O at *
      generalize l[i].ch = C at *
      generalize l[i].bl = Bl at *
      have hb2 : b2 < wr.heap.size := World.block_lt_of_cell? wr _ r0
      have rsc := fun (W : World) (p : Addr) => run_store Try.prog W p (.complex .f64 (F C) (F Bl)) .plain rfl
      go_wp2_with fail
      go_quiet (fail)
      go_wp2_with fail
      exact ⟨⟨i + 1, by omega, by simp, (hk.alloc _).drewN _⟩, by simp [intOf]; omega⟩
    · go_wp2_with fail
      refine (lives_any _).mono ?_
      rintro e w3 ⟨rfl, hk3⟩
      go_wp2_with fail
      go_ret
      exact ⟨rfl, (hk0.trans hk).trans hk3⟩
end Go.Proofs.Ytimdaioojnohmaa
