/-
  The document's disk: flushes 87.
  The document's disk: Tick 66.
-/
import Derived.Test.YtimdaioojnohmaaMRMem
import Derived.Test.YtimdaioojnohmaaMDFlush
namespace Go.Proofs.Ytimdaioojnohmaa
open Go.RowKit Go.Maps
section
variable {X : Nat → Prop} {B hi : Nat} {w w' : World} {g qb : Nat} {D : DD} {C T : Value} {vs : Nat → RV} {lo : Nat → Nat}
set_option maxRecDepth 100000 in
set_option maxHeartbeats 4000000 in
theorem rflushes_any (h : RD X B hi w g D qb C T vs lo) (few : D.ts.length ≤ 1048576) (hwok : WOk D) :
    Calls Try.prog 87 #[.pointer (some ⟨g, 0, none⟩)] w fun e w' => (∃ v, e = .returned v) ∧ RD X B hi w' g (dflushes D) qb C T vs lo ∧ KeepZ (TD X B) w w' := by
  obtain ⟨A, kT, rfl, -, -⟩ := h.t
  have H0 := Lib.hid h
  have HWOK := Lib.hid hwok
  rw [← gfold_all]
  clear h hwok
  go_enter Try.func87, Try.ntmps87
  go_wp2_with fail
  go_loopw [2] (fun iv wr => ∃ i, i ≤ D.ts.length ∧ iv = .int .i64 (i : Nat) ∧ Hid (RD X B hi wr g (gfold D i) qb C (.slice A D.ts.length kT) vs lo) ∧ Hid (KeepZ (TD X B) w wr)) (fun iv _ => D.ts.length - (intOf iv).toNat)
  case atStart => exact ⟨0, Nat.zero_le _, rfl, H0, KeepZ.refl _ _⟩
  case round =>
    obtain ⟨i, hi', rfl, hd, hk⟩ := hrel
    have c4 := hd.out.cells.2.2.2.2
    by_cases hlt : i < D.ts.length
    · have hlen := gfold_len D i
      have hok := gfold_wok HWOK.out i
      have HN := Lib.hid (gfold_succ D i)
      generalize gfold D i = E at *
      obtain ⟨b, kk, hv, hlk, -, -, hcell⟩ := hd.out.row (by omega)
      injection hv with hAA hle hcc
      subst hAA hcc
      clear hle
      have t0 := hcell i (by omega) 0 _ (by omega) rfl
      have t5 := hcell i (by omega) 5 _ (by omega) rfl
      have t4 := hcell i (by omega) 4 _ (by omega) rfl
      simp only [Nat.add_zero] at t0
      by_cases hc3 : rkind (E.ts.getD i default) = 3
      · by_cases hc1 : (E.ts.getD i default).state = 1
        · rw [hc3] at t0
          rw [hc1] at t5
          have HG : Hid (gstep E i = fstep E (i + 1)) := by show _ = _; unfold gstep; rw [if_pos ⟨hc3, hc1⟩]
          have hRD : Hid (dready E (i + 1) = !((E.ts.getD i default).wants.any (fun k => !((E.ts.getD (k - 1) default).state == 2)))) := by
            show _ = _; unfold dready; rw [Nat.add_sub_cancel]
          obtain ⟨⟨AW, kW, hvf, how⟩, -⟩ := (hd.out.ts i (by omega)).f
          rw [hvf] at t4
          have hwl := hok i
          have HC := Lib.hid hcell
          have HW : Hid (N64 wr (.slice AW (E.ts.getD i default).wants.length kW) (E.ts.getD i default).wants) := Sl.of_own how
          clear hc3 hc1 hvf how hcell
          generalize (E.ts.getD i default).wants = l at *
          go_wp2_with fail
          go_loopw [3, 4] (fun av kv w2 => ∃ k, k ≤ l.length ∧ kv = .int .i64 (k : Nat) ∧ av = .bool (!((l.take k).any (fun x => !((E.ts.getD (x - 1) default).state == 2)))) ∧ Hid (Keep No wr w2)) (fun _ kv _ => l.length - (intOf kv).toNat)
          case atStart => exact ⟨0, Nat.zero_le _, rfl, rfl, Keep.refl _ _⟩
          case round =>
            obtain ⟨k, hk', rfl, rfl, hn⟩ := hrel
            have c4b := hn.out.cellSome c4 (fun h => h)
            have t4b := hn.out.cellSome t4 (fun h => h)
            by_cases hlk2 : k < l.length
            · obtain ⟨bw, ow, cw, hvw, hcw, hcellw⟩ := N64.at_ (Sl.keep HW.out hn.out (fun _ _ h => h)) k hlk2
              injection hvw with hA2 _ hc2
              subst hA2 hc2
              have hx := hwl.2 l[k] (List.getElem_mem hlk2)
              have hany : (l.take (k + 1)).any (fun x => !((E.ts.getD (x - 1) default).state == 2)) = ((l.take k).any (fun x => !((E.ts.getD (x - 1) default).state == 2)) || !((E.ts.getD (l[k] - 1) default).state == 2)) := by
                rw [List.take_succ_eq_append_getElem hlk2, List.any_append]; simp
              have HANY := Lib.hid hany
              clear hany
              generalize l[k] = x at *
              obtain ⟨n, rfl⟩ : ∃ n, x = n + 1 := ⟨x - 1, by omega⟩
              rw [Nat.add_sub_cancel] at HANY
              have s5 := hn.out.cellSome (HC.out n (by omega) 5 _ (by omega) rfl) (fun h => h)
              have hnl : n < D.ts.length := by omega
              have hb2 := beq_nat (E.ts.getD n default).state 2
              have HB2 := Lib.hid hb2
              clear hb2
              generalize (E.ts.getD n default).state = st at *
              generalize (l.take k).any (fun x => !((E.ts.getD (x - 1) default).state == 2)) = bb at *
              cases bb
              · go_wp2_with fail
                go_big_quiet (fail)
                go_wp2_with fail
                refine ⟨⟨k + 1, by omega, by simp, ?_, hn.out.drewN _⟩, by simp [intOf]; omega⟩
                rw [HANY.out]
                have := HB2.out
                simp at this
                simp [this]
              · go_wp2_with fail
                go_big_quiet (fail)
                go_wp2_with fail
                refine ⟨⟨k + 1, by omega, by simp, ?_, hn.out.drewN _⟩, by simp [intOf]; omega⟩
                rw [HANY.out]
                rfl
            · obtain rfl : k = l.length := by omega
              rw [List.take_length, ← hRD.out]
              have HE : Hid (gstep E i = if dready E (i + 1) then dend E (i + 1) else E) := HG
              cases hr : dready E (i + 1)
              · rw [hr] at HE
                clear hr
                go_wp2_with fail
                exact ⟨⟨i + 1, by omega, by simp, by rw [HN.out, HE.out]; exact hd.out.no hn.out, hk.out.then hn.out⟩, by simp [intOf]; omega⟩
              · rw [hr] at HE
                clear hr
                have HEND := Lib.hid (rend_any (hd.out.no hn.out) i (by omega) (by omega))
                go_wp2_with fail
                refine HEND.out.mono ?_
                rintro e w3 ⟨⟨v, rfl⟩, hd3, hk3⟩
                have HD3 := Lib.hid hd3
                clear hd3
                go_wp2_with fail
                exact ⟨⟨i + 1, by omega, by simp, by rw [HN.out, HE.out]; exact HD3.out, (hk.out.then hn.out).trans hk3⟩, by simp [intOf]; omega⟩
        · have HG : Hid (gstep E i = E) := by show _ = _; unfold gstep; rw [if_neg (fun e => hc1 e.2)]
          rw [hc3] at t0
          have hb1 : (((E.ts.getD i default).state : Int) != 1) = true := by rw [bne_iff_ne]; omega
          clear hcell hc3 hc1
          generalize (E.ts.getD i default).state = st at *
          go_wp2_with fail
          exact ⟨⟨i + 1, by omega, by simp, by rw [HN.out, HG.out]; exact hd, hk⟩, by simp [intOf]; omega⟩
      · have HG : Hid (gstep E i = E) := by show _ = _; unfold gstep; rw [if_neg (fun e => hc3 e.1)]
        have hb0 : ((rkind (E.ts.getD i default) : Int) != 3) = true := by rw [bne_iff_ne]; omega
        clear hcell hc3
        generalize rkind (E.ts.getD i default) = rk at *
        go_wp2_with fail
        exact ⟨⟨i + 1, by omega, by simp, by rw [HN.out, HG.out]; exact hd, hk⟩, by simp [intOf]; omega⟩
    · obtain rfl : i = D.ts.length := by omega
      go_wp2_with fail
      go_end0
      exact ⟨⟨_, rfl⟩, hd.out, hk.out⟩
end
end Go.Proofs.Ytimdaioojnohmaa

namespace Go.Proofs.Ytimdaioojnohmaa
open Go.RowKit Go.Maps
section
variable {X : Nat → Prop} {B hi : Nat} {w w' : World} {g qb : Nat} {D : DD} {C T : Value} {vs : Nat → RV} {lo : Nat → Nat}
set_option maxRecDepth 100000 in
set_option maxHeartbeats 4000000 in
theorem rtick_any (now : Nat) (h : RD X B hi w g D qb C T vs lo) (few : D.ts.length ≤ 1048575) (hids : ∀ x ∈ D.q, 1 ≤ x.1 ∧ x.1 ≤ D.ts.length) (hnow : now < 18446744073709551616) :
    Calls Try.prog 66 #[.pointer (some ⟨g, 0, none⟩), .int .u64 (now : Nat)] w fun e w' => ∃ r, e = .returned r ∧ New64 w w' r (dtick D now).1 ∧ RD X B hi w' g (dtick D now).2 qb C T vs lo ∧ KeepZ (TD X B) w w' := by
  have c3 := h.cells.2.2.2.1
  have HL := Lib.hid (rlate_any B qb D.most D.pat now D.q w h.q h.bsize hnow)
  have H0 := Lib.hid h
  have hl64 : (qlate D.pat D.q now).1.length ≤ 64 := by
    obtain ⟨_, _, _, _, _, _, _, hl, _⟩ := h.q
    unfold qlate
    simp only [List.length_map]
    exact Nat.le_trans (List.length_filter_le _ _) hl
  have hrange : ∀ x ∈ (qlate D.pat D.q now).1, 1 ≤ x ∧ x ≤ D.ts.length := fun x hx => by
    unfold qlate at hx
    obtain ⟨y, hy, rfl⟩ := List.mem_map.1 hx
    exact hids y (List.mem_filter.1 hy).1
  have HRANGE := Lib.hid hrange
  obtain ⟨AT, kT, rfl, -, -⟩ := h.t
  unfold dtick
  clear h hids hnow hrange
  simp only
  generalize (qlate D.pat D.q now).1 = ids at *
  generalize (qlate D.pat D.q now).2 = q2 at *
  go_enter Try.func66, Try.ntmps66
  go_wp2_with fail
  refine HL.out.mono ?_
  rintro e w1 ⟨r, rfl, hr, hq2, k1⟩
  have hd1 := H0.out.queue hq2 k1
  have HD1 := Lib.hid hd1
  have HNEW := Lib.hid hr
  obtain ⟨A, cc, rfl, ho29, hb29⟩ := hr
  have HB29 := Lib.hid hb29
  have HR29 := Lib.hid ho29
  have hk1 : KeepZ (TD X B) w w1 := k1.mono TR.td
  clear hd1 ho29 hq2 hb29
  go_wp2_with fail
  go_loopw [6] (fun iv wr => ∃ i, i ≤ ids.length ∧ iv = .int .i64 (i : Nat) ∧ Hid (RD X B hi wr g { D with q := q2, ts := dlates D.ts (ids.take i) } qb C (.slice AT D.ts.length kT) vs lo) ∧ Hid (KeepZ (TS B) w1 wr)) (fun iv _ => ids.length - (intOf iv).toNat)
  case atStart => exact ⟨0, Nat.zero_le _, rfl, HD1, KeepZ.refl _ _⟩
  case round =>
    obtain ⟨i, hi', rfl, hd, hk⟩ := hrel
    have hr2 := hk.out.row HR29.out (fun _ _ h => by simp [TS] at h)
    have hn64 : N64 wr (.slice A ids.length cc) ids := Sl.of_own hr2
    by_cases hlt : i < ids.length
    · obtain ⟨b, o, c', hv, hc', hcell⟩ := hn64.at_ i hlt
      injection hv with hAA _ hcc
      subst hAA hcc
      have hidr := HRANGE.out ids[i] (List.getElem_mem hlt)
      have htake : dlates D.ts (ids.take (i + 1)) = (dlates D.ts (ids.take i)).set (ids[i] - 1) { (dlates D.ts (ids.take i)).getD (ids[i] - 1) default with state := 3 } := by
        rw [List.take_succ_eq_append_getElem hlt, dlates_snoc]
      have hln := dlates_len D.ts (ids.take i)
      have HTAKE := Lib.hid htake
      clear htake hr2 hn64
      generalize dlates D.ts (ids.take i) = L at *
      generalize ids[i] = id at *
      obtain ⟨n, rfl⟩ : ∃ n, id = n + 1 := ⟨id - 1, by omega⟩
      have hnl : n < L.length := by omega
      have c4 := hd.out.cells.2.2.2.2
      obtain ⟨bt, kt, hv2, hlk, hc2, ⟨cur, hcur⟩, h2, hz⟩ := hd.out.state n hnl 3
      injection hv2 with hA2 hle2 hcc2
      subst hA2 hcc2
      clear hle2
      have t5 := hc2 n hnl 5 _ (by omega) rfl
      have f5 : wr.frozen? ⟨bt, n * 6 + 5, none⟩ = false := blk_free hcur _
      have H2 := Lib.hid h2
      have HZ := Lib.hid hz
      simp only at hlk
      have hnD : n < D.ts.length := by omega
      clear h2 hz hc2 hcur hln
      go_wp2_with fail
      go_region
      go_wp2_with fail
      refine ⟨⟨i + 1, by omega, by simp, ?_, hk.out.trans HZ.out.drew⟩, by simp [intOf]; omega⟩
      show RD _ _ _ _ _ _ _ _ _ _ _
      rw [HTAKE.out, Nat.add_sub_cancel]
      exact H2.out.no (Keep.refl _ _).drew
    · obtain rfl : i = ids.length := by omega
      have hd2 := hd.out
      rw [List.take_length] at hd2
      have HD2 := Lib.hid hd2
      clear hd2
      go_wp2_with fail
      go_ret
      exact ⟨_, rfl, ⟨A, cc, rfl, hr2, HB29.out⟩, HD2.out, hk1.trans (hk.out.mono TS.to)⟩
end
end Go.Proofs.Ytimdaioojnohmaa
