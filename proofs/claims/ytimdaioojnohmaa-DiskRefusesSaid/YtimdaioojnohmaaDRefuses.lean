/-
  The law DiskRefuses walked.
-/
import Derived.Test.YtimdaioojnohmaaDPd
import Derived.Test.YtimdaioojnohmaaDLives
import Derived.Test.YtimdaioojnohmaaDLight
import Derived.Test.YtimdaioojnohmaaDNobody
namespace Go.Proofs.Ytimdaioojnohmaa
open Go.RowKit Go.Maps

theorem nopen_le (ts : List DTask) (h : ∀ t ∈ ts, t.parts.length ≤ 64) : nopen ts ≤ ts.length * 64 := by
  induction ts with
  | nil => simp [nopen]
  | cons t ts ih =>
    have h1 := ih (fun x hx => h x (by simp [hx]))
    have h2 := h t (by simp)
    have h3 : openOf t ≤ 64 := by
      unfold openOf
      split
      · exact Nat.le_trans (untold_len _) h2
      · exact Nat.zero_le _
    show openOf t + nopen ts ≤ _
    simp only [List.length_cons]
    omega
theorem PD.few {B : Nat} {w : World} {p : Value} {o : Option DD} (h : PD B w p o) : onopen o ≤ otasks o * 64 := by
  rcases h with ⟨-, rfl⟩ | ⟨g, D, -, rfl, -, hi⟩
  · exact Nat.zero_le _
  · exact nopen_le D.ts (fun t ht => (hi.sm t ht).1)
theorem PD.shape {B : Nat} {w : World} {p : Value} {o : Option DD} (h : PD B w p o) : p = .pointer none ∨ ∃ g, p = .pointer (some ⟨g, 0, none⟩) := by
  rcases h with ⟨h, -⟩ | ⟨g, D, h, -⟩
  · exact .inl h
  · exact .inr ⟨g, h⟩
theorem noTP50 (B : Nat) : ∀ k, ¬ TP B k (some 50) := fun k ⟨_, h⟩ => by rcases h with h | h | h | h | h | h <;> simp at h
theorem noTP29 (B : Nat) : ∀ k, ¬ TP B k (some 29) := fun k ⟨_, h⟩ => by rcases h with h | h | h | h | h | h <;> simp at h
theorem light_op {n : Nat} {l : List DOp} (h : lightB n l = true) : l.length ≤ 60 ∧ n ≤ 300 ∧ ∀ x ∈ l, x.data.size ≤ 3000 ∧ x.chunks.length ≤ 300 := by
  unfold lightB at h
  rw [Bool.and_eq_true, Bool.and_eq_true, List.all_eq_true] at h
  refine ⟨by simpa using h.2.1, by simpa using h.2.2, fun x hx => ?_⟩
  have := h.1 x hx
  unfold opLight at this
  simpa using this
/-- What a round of the laws has: an act in a block of its own. -/
structure OpAt (B : Nat) (w0 w : World) (ob : Nat) (x : DOp) : Prop where
  blk : w.heap[ob]? = some (.cells (opcells8 x).toArray 50 (0, 0))
  ok : DOpOk w0 x
  keep : Keep No w0 w
theorem OpAt.step {B : Nat} {w0 w w' : World} {ob : Nat} {x : DOp} (h : OpAt B w0 w ob x) (hk : KeepZ (TP B) w w') (hB : w0.heap.size ≤ B) : OpAt B w0 w' ob x :=
  ⟨hk.blk h.blk (noTP50 B ob), h.ok, (KeepZ.of (T := TP B) h.keep).trans hk |>.no (fun _ _ e => Nat.le_trans hB e.1)⟩

set_option maxRecDepth 100000 in
set_option maxHeartbeats 8000000 in
theorem diskRefuses_any (per blocks : Nat) (v2 v3 : Value) (l2 : List Nat) (l : List DOp) (w : World) (hp : per < 4294967296) (hb : blocks < 4294967296) (h2 : Rd w v2 l2.length (l2.map u64v)) (h3 : Rd w v3 l.length (l.flatMap opcells8)) (hok : ∀ x ∈ l, DOpOk w x) (hl : l.length ≤ maxLen) :
    Calls Try.prog 12 #[.int .u32 (per : Nat), .int .u32 (blocks : Nat), v2, v3] w fun e w' => e = .returned (.bool true) ∧ Keep No w w' := by
  obtain ⟨A2, c2, rfl, hlc2, -⟩ := id h2
  obtain ⟨A, c, rfl, hlc, -⟩ := id h3
  have HLT := Lib.hid (light_any A2 l2.length c2 _ l w h3 hok hl)
  have HLV := Lib.hid lives39_any
  have HNEW := Lib.hid (fun W hk hn => pd_new per blocks 9 3 _ l2 W hp hb (by decide) (by decide) (h2.keep hk) hn)
  have H := Lib.hid h3
  have HOK := Lib.hid hok
  have hlt0 := @light_op l2.length l
  have HLO := Lib.hid hlt0
  unfold maxLen at hl
  clear h2 h3 hok hp hb hlt0
  generalize lightB l2.length l = lb at *
  go_enter Try.func12, Try.ntmps12
  go_wp2_with fail
  refine HLT.out.mono ?_
  rintro e w1 ⟨rfl, k1⟩
  have K1 := Lib.hid k1
  clear k1
  cases lb
  · go_wp2_with fail
    refine (HLV.out _).mono ?_
    rintro e w2 ⟨rfl, k3⟩
    go_wp2_with fail
    go_ret
    exact ⟨rfl, K1.out.trans k3⟩
  obtain ⟨hl60, hn300, hsm⟩ := HLO.out rfl
  have HSM := Lib.hid hsm
  clear hsm HLO
  go_wp2_with fail
  refine (HNEW.out _ K1.out (by omega)).mono ?_
  rintro e w2 ⟨p, o0, rfl, hpd, k2, ho0⟩
  obtain ⟨B, hB⟩ : ∃ B, B = w1.heap.size := ⟨_, rfl⟩
  rw [← hB] at hpd
  have hwB : w.heap.size ≤ B := by rw [hB]; exact K1.out.size
  have hot : otasks o0 = 0 := by rw [ho0]; split <;> rfl
  have HPD0 := Lib.hid hpd
  have K2 := Lib.hid (K1.out.trans k2)
  have HOT := Lib.hid hot
  clear hpd hB k2 hot ho0
  go_wp2_with fail
  go_loopw [27] (fun iv wr => ∃ i o, i ≤ l.length ∧ iv = .int .i64 (i : Nat) ∧ Hid (PD B wr p o) ∧ otasks o ≤ i ∧ KeepZ (TP B) w2 wr) (fun iv _ => l.length - (intOf iv).toNat)
  case atStart => exact ⟨0, o0, Nat.zero_le _, rfl, HPD0, by have := HOT.out; omega, KeepZ.refl _ _⟩
  case round =>
    obtain ⟨i, o, hi, rfl, hpd, hti, hk⟩ := hrel
    have HKR := Lib.hid hk
    by_cases hlt : i < l.length
    case neg =>
      clear hk
      go_wp2_with fail
      refine (HLV.out _).mono ?_
      rintro e w3 ⟨rfl, k3⟩
      go_wp2_with fail
      go_ret
      exact ⟨rfl, (((KeepZ.of (T := TP B) K2.out).trans HKR.out).no (fun k s h => Nat.le_trans hwB h.1)).trans k3⟩
    have kw : Keep No w wr := ((KeepZ.of (T := TP B) K2.out).trans hk).no (fun k s h => Nat.le_trans hwB h.1)
    obtain ⟨b, oo, c', hv, hc', x0, x1, x2, x3, x4, x5, x6, x7⟩ := (H.out.keep kw).dop i hlt
    injection hv with hA _ hcc
    subst hA hcc
    have hopk := HOK.out l[i] (List.getElem_mem hlt)
    have hsm := HSM.out l[i] (List.getElem_mem hlt)
    have hAt : OpAt B w (wr.alloc (.cells (opcells8 l[i]).toArray 50)) wr.heap.size l[i] := ⟨blk_at _ _ rfl, hopk, kw.alloc _⟩
    have HPD := Lib.hid (hpd.out.no ((Keep.refl No wr).alloc (.cells (opcells8 l[i]).toArray 50)))
    have HKA := Lib.hid (hk.alloc (.cells (opcells8 l[i]).toArray 50))
    have HAT := Lib.hid hAt
    have hpart := hopk.part
    have htask := hopk.task
    have hnow := hopk.now
    have hfrm := hopk.frm
    have hcnt := hopk.cnt
    have hchv := hopk.ch
    clear hk kw hopk hAt hpd
    generalize l[i] = x at *
    obtain ⟨kind, frm, cnt, data, task, part, now, ch, chunks⟩ := x
    simp only at x0 x1 x2 x3 x4 x5 x6 x7 hsm htask hnow hfrm hcnt hpart hchv
    obtain ⟨A7, c7, rfl, -, -⟩ := hchv
    change Hid (OpAt B w (wr.alloc (.cells #[.int .i64 kind, .int .u32 (frm : Nat), .int .u32 (cnt : Nat), .string data, .int .u64 (task : Nat), .int .i64 part, .int .u64 (now : Nat), .slice A7 chunks.length c7] 50)) wr.heap.size ⟨kind, frm, cnt, data, task, part, now, .slice A7 chunks.length c7, chunks⟩) at HAT
    change Hid (PD B (wr.alloc (.cells #[.int .i64 kind, .int .u32 (frm : Nat), .int .u32 (cnt : Nat), .string data, .int .u64 (task : Nat), .int .i64 part, .int .u64 (now : Nat), .slice A7 chunks.length c7] 50)) p o) at HPD
    change Hid (KeepZ (TP B) w2 (wr.alloc (.cells #[.int .i64 kind, .int .u32 (frm : Nat), .int .u32 (cnt : Nat), .string data, .int .u64 (task : Nat), .int .i64 part, .int .u64 (now : Nat), .slice A7 chunks.length c7] 50))) at HKA
    have HTK := Lib.hid (pd_tasks HPD.out)
    have HOP := Lib.hid (pd_open HPD.out (by omega))
    obtain ⟨m, hm⟩ : ∃ m, m = onopen o := ⟨_, rfl⟩
    obtain ⟨n, hn⟩ : ∃ n, n = otasks o := ⟨_, rfl⟩
    have hmb := HPD.out.few
    have hol := oopen_len o
    have hofs := And.intro (owrite_fair o frm data now) (And.intro (oread_fair o frm cnt now) (And.intro (oflush_fair o now) (otold_fair o task part data)))
    have HWR := Lib.hid (fun (W : World) (h : PD B W p o) => pd_write frm now data h (by omega) hfrm (by omega) hnow)
    have HRD := Lib.hid (fun (W : World) (h : PD B W p o) => pd_read frm cnt now h (by omega) hfrm hcnt hnow)
    have HFL := Lib.hid (fun (W : World) (h : PD B W p o) => pd_flush now h (by omega) hnow)
    have HTO := Lib.hid (fun (W : World) (h : PD B W p o) => pd_told task part data h (by omega) htask (by omega))
    rw [← hm, ← hn] at hmb
    rw [← hn] at HTK hti hofs
    rw [← hm] at hol hofs
    have hn60 : n ≤ 60 := by omega
    have hm64 : m ≤ 3840 := by omega
    have HOL := Lib.hid hol
    have HOFS := Lib.hid hofs
    have hn1 := IntWalk.u64_in ((n : Int) + 1) (by omega)
    have HNO := Lib.hid hn
    clear hm hn hmb hol hofs hsm htask hnow hfrm hcnt hpart
    generalize hW0 : wr.alloc (.cells #[.int .i64 kind, .int .u32 (frm : Nat), .int .u32 (cnt : Nat), .string data, .int .u64 (task : Nat), .int .i64 part, .int .u64 (now : Nat), .slice A7 chunks.length c7] 50) = W0 at *
    generalize hob : wr.heap.size = ob at *
    have HW0 := Lib.hid hW0
    have HOB := Lib.hid hob
    clear hW0 hob
    have y := op_cells HAT.out.blk
    obtain ⟨y0, y1, y2, y3, y4, y5, y6, y7⟩ := y
    try simp only at y0 y1 y2 y3 y4 y5 y6 y7
    go_upto_region 7 with fail
    rw [HW0.out, HOB.out]
    go_wp2_with fail
    refine HTK.out.mono ?_
    rintro e w3 ⟨rfl, rfl⟩
    go_wp2_with fail
    refine HOP.out.mono ?_
    rintro e w3 ⟨v, rfl, hv, k3⟩
    obtain ⟨Av, kv, rfl, -, -⟩ := hv
    rw [HOL.out]
    have HPD3 := Lib.hid (HPD.out.no k3)
    have HAT3 := Lib.hid (HAT.out.step (KeepZ.of k3) hwB)
    have HK3 := Lib.hid (HKA.out.then k3)
    clear k3 y0 y1 y2 y3 y4 y5 y6 y7 x0 x1 x2 x3 x4 x5 x6 x7
    obtain ⟨y0, y1, y2, y3, y4, y5, y6, y7⟩ := op_cells HAT3.out.blk
    try simp only at y0 y1 y2 y3 y4 y5 y6 y7
    obtain ⟨HF0, HF1, HF2, HF3⟩ := HOFS
    by_cases q0 : kind = 0
    · subst q0

      have HC := Lib.hid (HWR.out w3 HPD3.out)
      have HFR := Lib.hid HF0
      generalize owrite o frm data now = r at *
      obtain ⟨rid, asks, code, o2⟩ := r
      simp only at HC HFR
      go_wp2_with fail
      refine HC.out.mono ?_
      rintro e w4 ⟨v4, rfl, hv4, hpd4, k4⟩
      obtain ⟨A4, k44, rfl, -, -⟩ := hv4
      generalize asks.length = na at *
      have HPD4 := Lib.hid hpd4
      have HK4 := Lib.hid (HK3.out.trans k4)
      have HAT4 := Lib.hid (HAT3.out.step k4 hwB)
      clear y0 y1 y2 y3 y4 y5 y6 y7 hpd4 k4 HC
      have y0 := (op_cells HAT4.out.blk).1
      try simp only at y0

      rcases HFR.out with ⟨f1, f2, f3, f4⟩ | ⟨f1, f2, f3⟩
      · subst f2
        have e0 : ((code : Int) == 0) = false := beq_eq_false_iff_ne.2 (by omega)
        have e1 : ((code : Int) != 0) = true := by rw [bne_iff_ne]; omega
        have HTK4 := Lib.hid (pd_tasks HPD4.out)
        have HOP4 := Lib.hid (pd_open HPD4.out (by omega))
        have hol4 := oopen_len o2
        rw [f4] at hol4
        rw [f3] at HTK4
        have HOL4 := Lib.hid hol4
        have F3 := Lib.hid f3
        clear f1 f3 f4 hol4
        go_wp2_with fail
        refine HTK4.out.mono ?_
        rintro e w5 ⟨rfl, rfl⟩
        go_wp2_with fail
        refine HOP4.out.mono ?_
        rintro e w5 ⟨v5, rfl, hv5, k5⟩
        obtain ⟨A5, k55, rfl, -, -⟩ := hv5
        rw [HOL4.out]
        have HPD5 := Lib.hid (HPD4.out.no k5)
        have HK5 := Lib.hid (HK4.out.then k5)
        clear k5
        go_wp2_with fail
        exact ⟨⟨i + 1, o2, by omega, by simp, HPD5, by have := F3.out; omega, HK5.out⟩, by simp [intOf]; omega⟩
      · subst f1
        have HTK4 := Lib.hid (pd_tasks HPD4.out)
        have HOP4 := Lib.hid (pd_open HPD4.out (by omega))
        have hb4 := HPD4.out.few
        have hol4 := oopen_len o2
        rw [f3] at hol4 hb4
        rw [f2] at HTK4 hb4
        have hs5 := IntWalk.i64_in ((m : Int) + (na : Int)) (by omega)
        have HOL4 := Lib.hid hol4
        have F2 := Lib.hid f2
        clear f2 f3 hol4 hb4
        go_wp2_with fail
        refine HTK4.out.mono ?_
        rintro e w5 ⟨rfl, rfl⟩
        go_wp2_with fail
        refine HOP4.out.mono ?_
        rintro e w5 ⟨v5, rfl, hv5, k5⟩
        obtain ⟨A5, k55, rfl, -, -⟩ := hv5
        rw [HOL4.out]
        have HPD5 := Lib.hid (HPD4.out.no k5)
        have HK5 := Lib.hid (HK4.out.then k5)
        have z0 := (op_cells (HAT4.out.step (KeepZ.of k5) hwB).blk).1
        try simp only at z0
        clear k5
        go_wp2_with fail
        exact ⟨⟨i + 1, o2, by omega, by simp, HPD5, by have := F2.out; omega, HK5.out⟩, by simp [intOf]; omega⟩

    by_cases q1 : kind = 1
    · subst q1

      have HC := Lib.hid (HRD.out w3 HPD3.out)
      have HFR := Lib.hid HF1
      generalize oread o frm cnt now = r at *
      obtain ⟨rid, asks, code, o2⟩ := r
      simp only at HC HFR
      go_wp2_with fail
      refine HC.out.mono ?_
      rintro e w4 ⟨v4, rfl, hv4, hpd4, k4⟩
      obtain ⟨A4, k44, rfl, -, -⟩ := hv4
      generalize asks.length = na at *
      have HPD4 := Lib.hid hpd4
      have HK4 := Lib.hid (HK3.out.trans k4)
      have HAT4 := Lib.hid (HAT3.out.step k4 hwB)
      clear y0 y1 y2 y3 y4 y5 y6 y7 hpd4 k4 HC
      have y0 := (op_cells HAT4.out.blk).1
      try simp only at y0

      rcases HFR.out with ⟨f1, f2, f3, f4⟩ | ⟨f1, f2, f3⟩
      · subst f2
        have e0 : ((code : Int) == 0) = false := beq_eq_false_iff_ne.2 (by omega)
        have e1 : ((code : Int) != 0) = true := by rw [bne_iff_ne]; omega
        have HTK4 := Lib.hid (pd_tasks HPD4.out)
        have HOP4 := Lib.hid (pd_open HPD4.out (by omega))
        have hol4 := oopen_len o2
        rw [f4] at hol4
        rw [f3] at HTK4
        have HOL4 := Lib.hid hol4
        have F3 := Lib.hid f3
        clear f1 f3 f4 hol4
        go_wp2_with fail
        refine HTK4.out.mono ?_
        rintro e w5 ⟨rfl, rfl⟩
        go_wp2_with fail
        refine HOP4.out.mono ?_
        rintro e w5 ⟨v5, rfl, hv5, k5⟩
        obtain ⟨A5, k55, rfl, -, -⟩ := hv5
        rw [HOL4.out]
        have HPD5 := Lib.hid (HPD4.out.no k5)
        have HK5 := Lib.hid (HK4.out.then k5)
        clear k5
        go_wp2_with fail
        exact ⟨⟨i + 1, o2, by omega, by simp, HPD5, by have := F3.out; omega, HK5.out⟩, by simp [intOf]; omega⟩
      · subst f1
        have HTK4 := Lib.hid (pd_tasks HPD4.out)
        have HOP4 := Lib.hid (pd_open HPD4.out (by omega))
        have hb4 := HPD4.out.few
        have hol4 := oopen_len o2
        rw [f3] at hol4 hb4
        rw [f2] at HTK4 hb4
        have hs5 := IntWalk.i64_in ((m : Int) + (na : Int)) (by omega)
        have HOL4 := Lib.hid hol4
        have F2 := Lib.hid f2
        clear f2 f3 hol4 hb4
        go_wp2_with fail
        refine HTK4.out.mono ?_
        rintro e w5 ⟨rfl, rfl⟩
        go_wp2_with fail
        refine HOP4.out.mono ?_
        rintro e w5 ⟨v5, rfl, hv5, k5⟩
        obtain ⟨A5, k55, rfl, -, -⟩ := hv5
        rw [HOL4.out]
        have HPD5 := Lib.hid (HPD4.out.no k5)
        have HK5 := Lib.hid (HK4.out.then k5)
        have z0 := (op_cells (HAT4.out.step (KeepZ.of k5) hwB).blk).1
        try simp only at z0
        clear k5
        go_wp2_with fail
        exact ⟨⟨i + 1, o2, by omega, by simp, HPD5, by have := F2.out; omega, HK5.out⟩, by simp [intOf]; omega⟩

    by_cases q2 : kind = 2
    · subst q2

      have HC := Lib.hid (HFL.out w3 HPD3.out)
      have HFR := Lib.hid HF2
      generalize oflush o now = r at *
      obtain ⟨rid, code, o2⟩ := r
      simp only at HC HFR
      obtain ⟨na, hna⟩ : ∃ na, na = 0 := ⟨_, rfl⟩
      rw [← hna] at HFR
      have HNA := Lib.hid hna
      clear hna
      go_wp2_with fail
      refine HC.out.mono ?_
      rintro e w4 ⟨rfl, hpd4, k4⟩
      have HPD4 := Lib.hid hpd4
      have HK4 := Lib.hid (HK3.out.trans k4)
      have HAT4 := Lib.hid (HAT3.out.step k4 hwB)
      clear y0 y1 y2 y3 y4 y5 y6 y7 hpd4 k4 HC
      have y0 := (op_cells HAT4.out.blk).1
      try simp only at y0

      rcases HFR.out with ⟨f1, f2, f3, f4⟩ | ⟨f1, f2, f3⟩
      · clear f2
        have e0 : ((code : Int) == 0) = false := beq_eq_false_iff_ne.2 (by omega)
        have e1 : ((code : Int) != 0) = true := by rw [bne_iff_ne]; omega
        have HTK4 := Lib.hid (pd_tasks HPD4.out)
        have HOP4 := Lib.hid (pd_open HPD4.out (by omega))
        have hol4 := oopen_len o2
        rw [f4] at hol4
        rw [f3] at HTK4
        have HOL4 := Lib.hid hol4
        have F3 := Lib.hid f3
        clear f1 f3 f4 hol4
        go_wp2_with fail
        refine HTK4.out.mono ?_
        rintro e w5 ⟨rfl, rfl⟩
        go_wp2_with fail
        refine HOP4.out.mono ?_
        rintro e w5 ⟨v5, rfl, hv5, k5⟩
        obtain ⟨A5, k55, rfl, -, -⟩ := hv5
        rw [HOL4.out]
        have HPD5 := Lib.hid (HPD4.out.no k5)
        have HK5 := Lib.hid (HK4.out.then k5)
        clear k5
        go_wp2_with fail
        exact ⟨⟨i + 1, o2, by omega, by simp, HPD5, by have := F3.out; omega, HK5.out⟩, by simp [intOf]; omega⟩
      · subst f1
        have HTK4 := Lib.hid (pd_tasks HPD4.out)
        have HOP4 := Lib.hid (pd_open HPD4.out (by omega))
        have hb4 := HPD4.out.few
        have hol4 := oopen_len o2
        rw [f3] at hol4 hb4
        rw [f2] at HTK4 hb4
        obtain rfl := HNA.out
        have hs5 := IntWalk.i64_in (m : Int) (by omega)
        have HOL4 := Lib.hid hol4
        have F2 := Lib.hid f2
        clear f2 f3 hol4 hb4
        go_wp2_with fail
        refine HTK4.out.mono ?_
        rintro e w5 ⟨rfl, rfl⟩
        go_wp2_with fail
        refine HOP4.out.mono ?_
        rintro e w5 ⟨v5, rfl, hv5, k5⟩
        obtain ⟨A5, k55, rfl, -, -⟩ := hv5
        rw [HOL4.out]
        have HPD5 := Lib.hid (HPD4.out.no k5)
        have HK5 := Lib.hid (HK4.out.then k5)
        have z0 := (op_cells (HAT4.out.step (KeepZ.of k5) hwB).blk).1
        try simp only at z0
        clear k5
        go_wp2_with fail
        exact ⟨⟨i + 1, o2, by omega, by simp, HPD5, by have := F2.out; omega, HK5.out⟩, by simp [intOf]; omega⟩

    have u0 : (kind == 0) = false := beq_eq_false_iff_ne.2 q0
    have u1 : (kind == 1) = false := beq_eq_false_iff_ne.2 q1
    have u2 : (kind == 2) = false := beq_eq_false_iff_ne.2 q2
    by_cases q3 : kind = 3
    · subst q3
      clear q0 q1 q2
      have HC := Lib.hid (HTO.out w3 HPD3.out)
      generalize otold o task part data = r at *
      obtain ⟨code, o2⟩ := r
      simp only at HC HF3
      obtain ⟨g1, g2⟩ := HF3
      have G1 := Lib.hid g1
      clear g1
      go_wp2_with fail
      refine HC.out.mono ?_
      rintro e w4 ⟨rfl, hpd4, k4⟩
      have HPD4 := Lib.hid hpd4
      have HK4 := Lib.hid (HK3.out.trans k4)
      have HAT4 := Lib.hid (HAT3.out.step k4 hwB)
      have HOP4 := Lib.hid (pd_open HPD4.out (by rw [G1.out]; omega))
      have hol4 := oopen_len o2
      have HOL4 := Lib.hid hol4
      clear y0 y1 y2 y3 y4 y5 y6 y7 hpd4 k4 HC hol4
      rcases g2 with ⟨f1, f2⟩ | ⟨f1, f2⟩
      · have e0 : ((code : Int) == 0) = false := beq_eq_false_iff_ne.2 (by omega)
        rw [f2] at HOL4
        clear f1 f2
        go_wp2_with fail
        refine HOP4.out.mono ?_
        rintro e w5 ⟨v5, rfl, hv5, k5⟩
        obtain ⟨A5, k55, rfl, -, -⟩ := hv5
        rw [HOL4.out]
        have HPD5 := Lib.hid (HPD4.out.no k5)
        have HK5 := Lib.hid (HK4.out.then k5)
        have z0 := (op_cells (HAT4.out.step (KeepZ.of k5) hwB).blk).1
        try simp only at z0
        clear k5
        go_wp2_with fail
        exact ⟨⟨i + 1, o2, by omega, by simp, HPD5, by have := G1.out; omega, HK5.out⟩, by simp [intOf]; omega⟩
      · subst f1
        generalize onopen o2 = m2 at *
        obtain rfl : m = m2 + 1 := f2.symm
        have hs5 := IntWalk.i64_in (m2 : Int) (by omega)
        go_wp2_with fail
        refine HOP4.out.mono ?_
        rintro e w5 ⟨v5, rfl, hv5, k5⟩
        obtain ⟨A5, k55, rfl, -, -⟩ := hv5
        rw [HOL4.out]
        have HPD5 := Lib.hid (HPD4.out.no k5)
        have HK5 := Lib.hid (HK4.out.then k5)
        have z0 := (op_cells (HAT4.out.step (KeepZ.of k5) hwB).blk).1
        try simp only at z0
        clear k5
        go_wp2_with fail
        exact ⟨⟨i + 1, o2, by omega, by simp, HPD5, by have := G1.out; omega, HK5.out⟩, by simp [intOf]; omega⟩
    have u3 : (kind == 3) = false := beq_eq_false_iff_ne.2 q3
    by_cases q4 : kind ≤ 2
    · have v1 : decide (kind ≤ 2) = true := by simp; omega
      have v2 : decide (0 ≤ kind) = false := by simp; omega
      have HTK4 := Lib.hid (pd_tasks HPD3.out)
      have hne : ((n : Int) != (n : Int) + 1) = true := by rw [bne_iff_ne]; omega
      have hne2 : ((n : Int) == (n : Int) + 1) = false := beq_eq_false_iff_ne.2 (by omega)
      rw [← HNO.out] at HTK4
      clear q0 q1 q2 q3 q4
      rcases HPD3.out.shape with rfl | ⟨gg, rfl⟩
      all_goals
        go_wp2_with fail
        refine HTK4.out.mono ?_
        rintro e w5 ⟨rfl, rfl⟩
        go_wp2_with fail
        exact ⟨⟨i + 1, o, by omega, by simp, HPD3, by have := HNO.out; omega, HK3.out⟩, by simp [intOf]; omega⟩
    · have v1 : decide (kind ≤ 2) = false := by simp; omega
      clear q0 q1 q2 q3 q4
      go_wp2_with fail
      exact ⟨⟨i + 1, o, by omega, by simp, HPD3, by have := HNO.out; omega, HK3.out⟩, by simp [intOf]; omega⟩
end Go.Proofs.Ytimdaioojnohmaa
