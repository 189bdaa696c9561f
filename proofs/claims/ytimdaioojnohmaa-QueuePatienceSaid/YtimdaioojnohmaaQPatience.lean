/-
  The law QueuePatience walked.
-/
import Derived.Test.YtimdaioojnohmaaQMap
namespace Go.Proofs.Ytimdaioojnohmaa
open Go.RowKit Go.Maps

theorem Rd.op1 {w : World} {v : Value} {l : List OpL} (h : Rd w v l.length (l.flatMap opcells)) (i : Nat) (hi : i < l.length) : ∃ b o c, v = .slice (some ⟨b, o, none⟩) l.length c ∧ l.length ≤ c ∧
    w.cell? ⟨b, o + i * 3, none⟩ = some (.int .i64 l[i].1) ∧ w.cell? ⟨b, o + i * 3 + 1, none⟩ = some (.int .u64 l[i].2.1) ∧ w.cell? ⟨b, o + i * 3 + 2, none⟩ = some (.int .u64 l[i].2.2) := by
  obtain ⟨A, c, rfl, hc, hx⟩ := h
  have g := fun j (hj : j < 3) => flat_get opcells 3 opcells_len l i j hi hj
  obtain ⟨b, o, rfl, h0⟩ := hx _ _ ((g 0 (by decide)).trans rfl)
  obtain ⟨b1, o1, e1, h1⟩ := hx _ _ ((g 1 (by decide)).trans rfl)
  obtain ⟨b2, o2, e2, h2⟩ := hx _ _ ((g 2 (by decide)).trans rfl)
  cases e1
  cases e2
  exact ⟨b, o, c, rfl, hc, h0, h1, h2⟩

/-- What waits is in the map. -/
def QI (q : QL) (f : Nat → Nat) (now : Nat) : Prop := ∀ x ∈ q, f x.1 = x.2 ∧ x.2 ≤ now ∧ x.1 < 18446744073709551616
theorem PQ.len {B pat : Nat} {w : World} {p : Value} {q : QL} (h : PQ B w p pat q) : q.length ≤ 64 := by
  rcases h with ⟨_, rfl⟩ | ⟨g, most, rfl, ⟨A, k, hb, ho, hg, hA, hm, hl, hp⟩, h0⟩
  · decide
  · exact hl
theorem QI.mono {q q' : QL} {f : Nat → Nat} {now now' : Nat} (h : QI q f now) (hq : ∀ x ∈ q', x ∈ q) (hn : now ≤ now') : QI q' f now' := fun x hx => by
  have := h x (hq x hx)
  exact ⟨this.1, by omega, this.2.2⟩
theorem QI.put {q : QL} {f : Nat → Nat} {now id : Nat} (h : QI q f now) (hid : id < 18446744073709551616) (hh : qhas q id = false) : QI (q ++ [(id, now)]) (fun j => if j = id then now else f j) now := fun x hx => by
  rcases List.mem_append.1 hx with hx | hx
  · have hne : x.1 ≠ id := fun e => by
      unfold qhas at hh
      rw [List.any_eq_false] at hh
      exact hh x hx (by simp [e])
    simp only [if_neg hne]
    exact h x hx
  · obtain rfl := List.mem_singleton.1 hx
    exact ⟨if_pos rfl, Nat.le_refl _, hid⟩
def TB (B m : Nat) : Nat → Option TypeId → Prop := fun k _ => B ≤ k ∨ k = m

set_option maxRecDepth 100000 in
set_option maxHeartbeats 4000000 in
theorem queuePatience_any (a : Int) (n : Nat) (v : Value) (l : List OpL) (w : World) (ha : -9223372036854775808 ≤ a ∧ a ≤ 9223372036854775807) (hn : n < 18446744073709551616) (h : Rd w v l.length (l.flatMap opcells)) (hok : ∀ p ∈ l, OpOk p) :
    Calls Try.prog 8 #[.int .i64 a, .int .u64 n, v] w fun e w' => e = .returned (.bool true) ∧ Keep No w w' := by
  obtain ⟨A, c, rfl, hlc, -⟩ := id h
  have H := Lib.hid h
  have HOK := Lib.hid hok
  clear h hok
  by_cases h2 : 200 < l.length
  · have hd : decide ((200 : Int) < (l.length : Int)) = true := by simp; omega
    have HL := Lib.hid (lives38_any w)
    clear ha hn
    go_enter Try.func8, Try.ntmps8
    go_wp2_with fail
    refine HL.out.mono ?_
    rintro e w1 ⟨rfl, k1⟩
    go_wp2_with fail
    go_ret
    exact ⟨rfl, k1⟩
  have HN := Lib.hid (pnew a n w ha hn)
  clear ha hn
  have hmm := @run_makeMap Try.prog
  go_enter Try.func8, Try.ntmps8
  go_wp2_with fail
  refine HN.out.mono ?_
  rintro e w1 ⟨p, rfl, hq, k1⟩
  obtain ⟨M, hM⟩ : ∃ M, M = w1.heap.size := ⟨_, rfl⟩
  have hBM : w.heap.size ≤ M := hM ▸ k1.size
  have hm0 : MapIs (w1.alloc (.map #[] 0)) M 0 (fun _ => 0) := hM ▸ MapIs.made w1
  have k2 : KeepZ (fun k _ => w.heap.size ≤ k) w (w1.alloc (.map #[] 0)) := KeepZ.of (k1.alloc _)
  have hq0 := hq.no ((Keep.refl No w1).alloc (.map #[] 0))
  have HQ := Lib.hid hq0
  have HM := Lib.hid hm0
  clear hq hq0 hm0 HN
  go_wp2_with fail
  rw [← hM]
  clear hM
  go_loopw [9, 26] (fun nv iv wr => ∃ i now q f, i ≤ l.length ∧ iv = .int .i64 (i : Nat) ∧ nv = .int .u64 (now : Nat) ∧ now < 18446744073709551616 ∧ Hid (QI q f now) ∧ Hid (PQ w.heap.size wr p n q) ∧ Hid (MapIs wr M i f) ∧ KeepZ (fun k _ => w.heap.size ≤ k) w wr) (fun _ iv _ => l.length - (intOf iv).toNat)
  case atStart => exact ⟨0, 0, [], fun _ => 0, Nat.zero_le _, rfl, rfl, by decide, (show QI [] _ _ from fun x hx => by simp at hx), HQ, HM, k2⟩
  case round =>
    obtain ⟨i, now, q, f, hi, rfl, rfl, hnow, hqi, hq, hm, hk⟩ := hrel
    by_cases hlt : i < l.length
    · obtain ⟨b, o, c', hv, hc', hc0, hc1, hc2⟩ := (H.out.keep (hk.no (fun k s h => h))).op1 i hlt
      injection hv with hA _ hcc
      subst hA hcc
      have hopk := HOK.out l[i] (List.getElem_mem hlt)
      generalize l[i] = op at *
      obtain ⟨kd, id, t⟩ := op
      obtain ⟨-, -, hid1, ht1⟩ := hopk
      have hid2 : id < 18446744073709551616 := hid1
      have ht2 : t < 18446744073709551616 := ht1
      have HID := Lib.hid hid2
      have HT := Lib.hid ht2
      clear hid1 hid2 ht1 ht2
      have hc0 : wr.cell? ⟨b, o + i * 3, none⟩ = some (.int .i64 kd) := hc0
      have hc1 : wr.cell? ⟨b, o + i * 3 + 1, none⟩ = some (.int .u64 (id : Nat)) := hc1
      have hc2 : wr.cell? ⟨b, o + i * 3 + 2, none⟩ = some (.int .u64 (t : Nat)) := hc2
      have ka : Keep No wr (wr.alloc (.cells #[.int .i64 kd, .int .u64 (id : Nat), .int .u64 (t : Nat)] 93)) := (Keep.refl _ _).alloc _
      have hob : (wr.alloc (.cells #[.int .i64 kd, .int .u64 (id : Nat), .int .u64 (t : Nat)] 93)).heap[wr.heap.size]? = some (.cells #[.int .i64 kd, .int .u64 (id : Nat), .int .u64 (t : Nat)] 93 (0, 0)) := blk_at _ _ rfl
      have HOB := Lib.hid hob
      have hq1 := hq.out.no ka
      have hm1 := hm.out.no ka
      have hkw := hk.then ka
      have HM1 := Lib.hid hm1
      clear hob hm1 hq hm
      generalize hW0 : wr.alloc (.cells #[.int .i64 kd, .int .u64 (id : Nat), .int .u64 (t : Nat)] 93) = W0 at *
      have e0 := (blk_cell HOB.out 0).trans rfl
      have e1 := (blk_cell HOB.out 1).trans rfl
      have e2 := (blk_cell HOB.out 2).trans rfl
      rcases Nat.lt_or_ge now t with hcmp | hcmp
      case' inl =>
        have hqi2 : QI q f t := hqi.out.mono (fun _ h => h) (by omega)
        have hb2 : t < 18446744073709551616 := HT.out
        have hQB : QB q := fun x hx => ⟨(hqi2 x hx).2.2, Nat.lt_of_le_of_lt (hqi2 x hx).2.1 hb2⟩
        have HB2 := Lib.hid hb2
        have HPL := Lib.hid (plate t hq1 hkw.size hb2 hQB)
        have HQI2 := Lib.hid hqi2
        clear hqi2 hqi hQB hb2 hnow
        go_wp2_with fail
        generalize t = now2 at *
      case' inr =>
        have hqi2 : QI q f now := hqi.out.mono (fun _ h => h) (Nat.le_refl _)
        have hb2 : now < 18446744073709551616 := hnow
        have hQB : QB q := fun x hx => ⟨(hqi2 x hx).2.2, Nat.lt_of_le_of_lt (hqi2 x hx).2.1 hb2⟩
        have HB2 := Lib.hid hb2
        have HPL := Lib.hid (plate now hq1 hkw.size hb2 hQB)
        have HQI2 := Lib.hid hqi2
        clear hqi2 hqi hQB hb2 hnow
        go_wp2_with fail
        generalize now = now2 at *
      all_goals
        refine HPL.out.mono ?_
        rintro e W1 ⟨r1, rfl, hr1, hq2, kz⟩
        have hm2 : MapIs W1 M i f := HM1.out.keepZ kz (fun ⟨_, e⟩ => by rcases e with e | e <;> simp at e)
        have hob2 := kz.blk HOB.out (fun ⟨_, e⟩ => by rcases e with e | e <;> simp [sig] at e)
        have kz' : KeepZ (fun k _ => w.heap.size ≤ k) w W1 := hkw.trans (kz.mono (fun k s h => h.1))
        have hids : ∀ y ∈ (qlate n q now2).1, ∃ x ∈ q, y = x.1 ∧ islate n now2 x = true := fun y hy => by
          obtain ⟨x, hx, rfl⟩ := List.mem_map.1 hy
          exact ⟨x, (List.mem_filter.1 hx).1, rfl, (List.mem_filter.1 hx).2⟩
        have hstay : ∀ x ∈ (qlate n q now2).2, x ∈ q ∧ islate n now2 x = false := fun x hx => ⟨(List.mem_filter.1 hx).1, by simpa using (List.mem_filter.1 hx).2⟩
        have hil : (qlate n q now2).1.length ≤ 4503599627370496 := by
          have := hq1.len
          have h3 : ((q.filter (islate n now2)).map (·.1)).length ≤ q.length := by rw [List.length_map]; exact List.length_filter_le _ _
          show ((q.filter (islate n now2)).map (·.1)).length ≤ _
          omega
        have HIDS := Lib.hid hids
        have HSTAY := Lib.hid hstay
        have HM2 := Lib.hid hm2
        have HOB2 := Lib.hid hob2
        have HQ2 := Lib.hid hq2
        clear hids hstay hm2 hob2 hq2 HM1 HOB HPL e0 e1 e2 kz hkw hk ka
        generalize (qlate n q now2).1 = ids at *
        generalize (qlate n q now2).2 = q2 at *
        obtain ⟨A1, cc1, rfl, -⟩ := Sl.shape hr1
        have HR1 := Lib.hid hr1
        clear hr1
        go_wp2_with fail
        go_loopw [38] (fun jv wr => ∃ j, j ≤ ids.length ∧ jv = .int .i64 (j : Nat) ∧ W1 = wr) (fun jv _ => ids.length - (intOf jv).toNat)
        case atStart => exact ⟨0, Nat.zero_le _, rfl, rfl⟩
        case round =>
          obtain ⟨j, hj, rfl, rfl⟩ := hrel
          by_cases hltj : j < ids.length
          · obtain ⟨b1, o1, c1, hv1, hc1', hx1⟩ := HR1.out.at_ j hltj
            injection hv1 with hAA _ hcc
            subst hAA hcc
            obtain ⟨x, hxq, hxe, hxl⟩ := HIDS.out ids[j] (List.getElem_mem hltj)
            rw [hxe] at hx1
            obtain ⟨hfx, hxn, hx64⟩ := HQI2.out x hxq
            obtain ⟨d, hd⟩ : ∃ d, now2 - x.2 = d := ⟨_, rfl⟩
            have hdi : (now2 : Int) - (x.2 : Int) = (d : Nat) := by omega
            have hwd := IntWalk.u64_in (d : Int) (by have := HB2.out; omega)
            have hnd : n ≤ d := by
              unfold islate at hxl
              rw [Bool.and_eq_true, decide_eq_true_eq, decide_eq_true_eq] at hxl
              omega
            have hl1 : decide ((d : Int) < (n : Int)) = false := by simp; omega
            have HX64 := Lib.hid hx64
            have HFX := Lib.hid hfx
            clear hxe hxl hd hxn hx64 hfx
            go_wp2_with (at_lookup; refine wpList_look _ rfl _ _ rfl M i f rfl HM2.out x.1 HX64.out rfl ?_; rw [HFX.out])
            exact ⟨⟨j + 1, by omega, by simp, trivial⟩, by simp [intOf]; omega⟩
          · have HAL := Lib.hid (pall HQ2.out)
            go_wp2_with fail
            refine HAL.out.mono ?_
            rintro e W2 ⟨r2, rfl, hr2, k3⟩
            have hl2 := HQ2.out.len
            have HQ3 := Lib.hid (HQ2.out.no k3)
            have HM3 := Lib.hid (HM2.out.no k3)
            have HOB3 := Lib.hid (k3.blk HOB2.out (fun h => h))
            have kz3 := kz'.then k3
            have hids2 : ∀ y ∈ q2.map (·.1), ∃ x ∈ q2, y = x.1 := fun y hy => by
              obtain ⟨x, hx, rfl⟩ := List.mem_map.1 hy
              exact ⟨x, hx, rfl⟩
            have HIDS2 := Lib.hid hids2
            have hil2 : (q2.map (·.1)).length ≤ 64 := by rw [List.length_map]; exact hl2
            clear hids2 HQ2 HM2 HOB2 HAL hil HIDS HR1 hl2
            generalize q2.map (·.1) = ids2 at *
            obtain ⟨A2, cc2, rfl, -⟩ := Sl.shape hr2
            have HR2 := Lib.hid hr2
            clear hr2
            go_wp2_with fail
            go_loopw [53] (fun jv wr => ∃ j, j ≤ ids2.length ∧ jv = .int .i64 (j : Nat) ∧ W2 = wr) (fun jv _ => ids2.length - (intOf jv).toNat)
            case atStart => exact ⟨0, Nat.zero_le _, rfl, rfl⟩
            case round =>
              obtain ⟨j2, hj2, rfl, rfl⟩ := hrel
              by_cases hltj2 : j2 < ids2.length
              · obtain ⟨b1, o1, c1, hv1, hc1', hx1⟩ := HR2.out.at_ j2 hltj2
                injection hv1 with hAA _ hcc
                subst hAA hcc
                obtain ⟨x, hxq2, hxe⟩ := HIDS2.out ids2[j2] (List.getElem_mem hltj2)
                obtain ⟨hxq, hxl⟩ := HSTAY.out x hxq2
                rw [hxe] at hx1
                obtain ⟨hfx, hxn, hx64⟩ := HQI2.out x hxq
                obtain ⟨d, hd⟩ : ∃ d, now2 - x.2 = d := ⟨_, rfl⟩
                have hdi : (now2 : Int) - (x.2 : Int) = (d : Nat) := by omega
                have hwd := IntWalk.u64_in (d : Int) (by have := HB2.out; omega)
                have hnd : d < n := by
                  unfold islate at hxl
                  rw [decide_eq_true hxn, Bool.true_and, decide_eq_false_iff_not] at hxl
                  omega
                have hl1 : decide ((n : Int) ≤ (d : Int)) = false := by simp; omega
                have HX64 := Lib.hid hx64
                have HFX := Lib.hid hfx
                clear hxe hxl hd hxn hx64 hfx
                go_wp2_with (at_lookup; refine wpList_look _ rfl _ _ rfl M i f rfl HM3.out x.1 HX64.out rfl ?_; rw [HFX.out])
                exact ⟨⟨j2 + 1, by omega, by simp, trivial⟩, by simp [intOf]; omega⟩
              · have e0 := (blk_cell HOB3.out 0).trans rfl
                have e1 := (blk_cell HOB3.out 1).trans rfl
                have HQIN : Hid (QI q2 f now2) := HQI2.out.mono (fun x hx => (HSTAY.out x hx).1) (Nat.le_refl _)
                by_cases kd0 : kd = 0
                · subst kd0
                  have HPU := Lib.hid (pput id now2 HQ3.out kz3.size)
                  go_wp2_with fail
                  refine HPU.out.mono ?_
                  rintro e W3 ⟨c3, q3, rfl, hq4, kz4, hcase⟩
                  have hm4 : MapIs W3 M i f := HM3.out.keepZ kz4 (fun ⟨_, e⟩ => by rcases e with e | e <;> simp at e)
                  have HM4 := Lib.hid hm4
                  have hob4 := kz4.blk HOB3.out (fun ⟨_, e⟩ => by rcases e with e | e <;> simp [sig] at e)
                  have e4 := (blk_cell hob4 1).trans rfl
                  have kz5 : KeepZ (fun k _ => w.heap.size ≤ k) w W3 := kz3.trans (kz4.mono (fun k s h => h.1))
                  have HQ4 := Lib.hid hq4
                  clear hm4 hob4 hq4 e0 e1 HOB3 HM3 HQ3 HPU
                  rcases hcase with ⟨rfl, rfl, hh⟩ | ⟨hc0', rfl⟩
                  · have HQN := Lib.hid (HQIN.out.put HID.out hh)
                    clear hh HQIN
                    go_wp2_with (at_mapUpdate; refine wpList_keep _ rfl _ _ _ rfl M i f rfl HM4.out (by unfold maxLen; omega) id now2 HID.out HB2.out rfl rfl ?_; intro W4 hm5 kz6)
                    have HM5 := Lib.hid hm5
                    have HQ5 := Lib.hid (HQ4.out.keep kz6 (fun k => ⟨fun ⟨_, e⟩ => by simp at e, fun ⟨_, e⟩ => by simp at e⟩))
                    have kz7 : KeepZ (fun k _ => w.heap.size ≤ k) w W4 := kz5.trans (kz6.mono (fun k s ⟨h, _⟩ => by omega))
                    have hb2 := HB2.out
                    exact ⟨⟨i + 1, now2, _, _, by omega, by simp, rfl, hb2, HQN, HQ5, HM5, kz7⟩, by simp [intOf]; omega⟩
                  · have hc3 : ((c3 : Int) == 0) = false := beq_eq_false_iff_ne.2 (by omega)
                    have hm6 := HM4.out
                    have HM6 : Hid (MapIs W3 M (i + 1) f) := by obtain ⟨D, h1, h2, h3⟩ := hm6; exact ⟨D, h1.mono (Nat.le_succ _), h2, h3⟩
                    clear hm6 hc0'
                    go_wp2_with fail
                    have hb2 := HB2.out
                    exact ⟨⟨i + 1, now2, _, f, by omega, by simp, rfl, hb2, HQIN, HQ4, HM6, kz5⟩, by simp [intOf]; omega⟩
                · have hk0 : (kd == 0) = false := beq_eq_false_iff_ne.2 kd0
                  have hm6 := HM3.out
                  have HM6 : Hid (MapIs W2 M (i + 1) f) := by obtain ⟨D, h1, h2, h3⟩ := hm6; exact ⟨D, h1.mono (Nat.le_succ _), h2, h3⟩
                  clear hm6 kd0
                  go_wp2_with fail
                  have hb2 := HB2.out
                  exact ⟨⟨i + 1, now2, q2, f, by omega, by simp, rfl, hb2, HQIN, HQ3, HM6, kz3⟩, by simp [intOf]; omega⟩
    · have HL := Lib.hid (lives38_any wr)
      go_wp2_with fail
      refine HL.out.mono ?_
      rintro e w3 ⟨rfl, k3⟩
      go_wp2_with fail
      go_ret
      exact ⟨rfl, (hk.then k3).no (fun k s h => h)⟩
end Go.Proofs.Ytimdaioojnohmaa
