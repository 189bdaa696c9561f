/-
  slices.Equal walked at rows of numbers.
-/
import Derived.Test.YtimdaioojnohmaaRows64
namespace Go.Proofs.Ytimdaioojnohmaa
open Go.RowKit

theorem equal_any (v u : Value) (l m : List Nat) (w : World) (h : N64 w v l) (h2 : N64 w u m) (hl : l.length ≤ 4503599627370496) (hm : m.length ≤ 4503599627370496) : Calls Try.prog 78 #[v, u] w fun e w' =>
    e = .returned (.bool (decide (l = m))) ∧ ∃ n, w' = w.drewN n := by
  obtain ⟨A, c, rfl, -⟩ := Sl.shape h
  obtain ⟨A2, c2, rfl, -⟩ := Sl.shape h2
  have H := Lib.hid h
  have H2 := Lib.hid h2
  clear h h2
  by_cases hlen : l.length = m.length
  · have hlen2 : ((l.length : Int) == (m.length : Int)) = true := beq_iff_eq.2 (by omega)
    have hlen3 : ((l.length : Int) != (m.length : Int)) = false := by rw [bne_eq_false_iff_eq]; omega
    have HL := Lib.hid hlen
    clear hlen
    go_enter Try.func78, Try.ntmps78
    go_wp2_with fail
    go_loopw [13] (fun iv wr => ∃ i, i ≤ l.length ∧ iv = .int .i64 (i : Nat) ∧ Hid (l.take i = m.take i) ∧ ∃ n, wr = w.drewN n) (fun iv _ => l.length - (intOf iv).toNat)
    case atStart => exact ⟨0, Nat.zero_le _, rfl, by show _ = _; simp, 0, rfl⟩
    case round =>
      obtain ⟨i, hi, rfl, hno, nn, rfl⟩ := hrel
      by_cases hlt : i < l.length
      · have hlt2 : i < m.length := by have := HL.out; omega
        obtain ⟨b, o, c', hv, hc', hcell⟩ := H.out.at_ i hlt
        obtain ⟨b2, o2, c2', hv2, hc2', hcell2⟩ := H2.out.at_ i hlt2
        injection hv with hA _ hcc
        subst hA hcc
        injection hv2 with hA2 _ hcc2
        subst hA2 hcc2
        by_cases he : l[i] = m[i]
        · have he2 : ((l[i] : Int) != (m[i] : Int)) = false := by rw [bne_eq_false_iff_eq]; omega
          have HE := Lib.hid he
          clear he hlen2 hlen3
          generalize hx : l[i] = x at *
          generalize hy : m[i] = y at *
          have HX := Lib.hid hx
          have HY := Lib.hid hy
          clear hx hy
          go_wp2_with fail
          go_quiet (fail)
          go_wp2_with fail
          refine ⟨⟨i + 1, by omega, by simp, ?_, _, rfl⟩, by simp [intOf]; omega⟩
          show _ = _
          rw [List.take_succ_eq_append_getElem hlt, List.take_succ_eq_append_getElem hlt2, HX.out, HY.out, HE.out, hno.out]
        · have he2 : ((l[i] : Int) != (m[i] : Int)) = true := by rw [bne_iff_ne]; omega
          have hd : decide (l = m) = false := by
            rw [decide_eq_false_iff_not]
            rintro rfl
            exact he rfl
          have HD := Lib.hid hd
          clear he hlen2 hlen3 hd
          generalize l[i] = x at *
          generalize m[i] = y at *
          go_wp2_with fail
          go_quiet (fail)
          go_wp2_with fail
          go_ret
          exact ⟨ret_bool HD.out.symm, _, World.drewN_drewN _ _ _⟩
      · have hd : decide (l = m) = true := by
          rw [decide_eq_true_eq]
          have := hno.out
          rwa [List.take_of_length_le (by omega), List.take_of_length_le (by have := HL.out; omega)] at this
        have HD := Lib.hid hd
        clear hd
        go_wp2_with fail
        go_ret
        exact ⟨ret_bool HD.out.symm, _, rfl⟩
  · have hlen3 : ((l.length : Int) != (m.length : Int)) = true := by rw [bne_iff_ne]; omega
    have hd : decide (l = m) = false := by
      rw [decide_eq_false_iff_not]
      rintro rfl
      exact hlen rfl
    have HD := Lib.hid hd
    clear hd hlen
    go_enter Try.func78, Try.ntmps78
    go_wp2_with fail
    go_ret
    exact ⟨ret_bool HD.out.symm, 0, rfl⟩

end Go.Proofs.Ytimdaioojnohmaa
