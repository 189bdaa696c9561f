/-
  The document's disk: begin 86.
-/
import Derived.Test.YtimdaioojnohmaaMRAdd
import Derived.Test.YtimdaioojnohmaaMDEqual
import Derived.Deep.RegionHeld3
import Derived.Deep.DrawnRows
import Derived.BigRegion
namespace Go.Proofs.Ytimdaioojnohmaa
open Go.RowKit Go.Maps
theorem RB.setAsk {W w : World} {tb kind np nt ns : Nat} {pv tv sv qp qt qs : Value} {cp ct cs : List Value} (h : RB W w tb kind pv tv sv qp np cp qt nt ct qs ns cs) {s : Nat} {c : Array Value} (hs : w.heap[s]? = some (.cells c 137 (0, 0))) (hn : W.heap.size ≤ s) (hne : ∀ b, qp.ownBlock = some b → b ≠ s) (j : Nat) (u : Value) :
    RB W (w.setCell ⟨s, j, none⟩ u) tb kind pv tv sv qp np cp qt nt ct qs ns cs := by
  have far : ∀ {e : TypeId} {size : Nat} {v : Value} {n : Nat} {xs : List Value}, w.ownsRow 0 e size v n xs → e ≠ 137 → (w.setCell ⟨s, j, none⟩ u).ownsRow 0 e size v n xs := fun ho hne => ownsRow_setCell_other ho (a := ⟨s, j, none⟩) (fun e => by
    obtain ⟨cur, hcur⟩ := own_blk ho e
    exact blk_ne hs hcur (Ne.symm hne) rfl) u
  exact ⟨h.keep.setCell (fun e => absurd e (by simp only; omega)) u, h.tbn, (blk_far (p := ⟨s, j, none⟩) (blk_ne h.task hs (by decide)) u).trans h.task, ownsRow_setCell_other h.p (fun e => hne s e rfl) u, h.pin, far h.t (by decide), h.tin, far h.s (by decide), h.sin⟩
theorem RPartsAt.keepZ {w0 w w' : World} {v : Value} {l : List CPart} {T : Nat → Option TypeId → Prop} (h : RPartsAt w0 w v l) (hk : KeepZ T w w') (hT : ∀ i, ¬ T i (some 35)) : RPartsAt w0 w' v l := by
  obtain ⟨A, k, rfl, ho, hb⟩ := h
  exact ⟨A, k, rfl, hk.row ho (fun i _ => hT i), hb⟩
section
variable {X : Nat → Prop} {B hi : Nat} {w w' : World} {g qb : Nat} {D : DD} {C T : Value} {vs : Nat → RV} {lo : Nat → Nat}
set_option maxRecDepth 100000 in
set_option maxHeartbeats 4000000 in
theorem rbegin_any (a c now : Nat) (write : Bool) (data : ByteArray) (h : RD X B hi w g D qb C T vs lo) (few : D.ts.length ≤ 1048575) (hfit : dfit D.per D.blocks D.chunks.length = true) (hb32 : D.blocks < 4294967296) (ha : a < 4294967296) (hc : c < 4294967296) (hdata : write = true → data.size = 8 * c) :
    Calls Try.prog 86 #[.pointer (some ⟨g, 0, none⟩), .int .u64 (a : Nat), .int .u64 (c : Nat), .bool write, .string data, .int .u64 (now : Nat)] w fun e w' => ∃ v, e = .returned (.tuple #[.int .u64 ((dbegin D a c write data now).1 : Nat), v, .int .i64 ((dbegin D a c write data now).2.2.1 : Nat)]) ∧
      N137 w' v (dbegin D a c write data now).2.1 ∧ (∃ T' vs' lo', RD X B w'.heap.size w' g (dbegin D a c write data now).2.2.2 qb C T' vs' lo') ∧ KeepZ (TD X B) w w' := by
  obtain ⟨c0, c1, c2, c3, c4⟩ := h.cells
  have hf := (dfit_iff _ _ _).1 hfit
  have H0 := Lib.hid h
  have HF := Lib.hid hf
  have HDATA := Lib.hid hdata
  have hsz := h.bsize
  have hup : ∀ w', Keep No w w' → RD X B w'.heap.size w' g D qb C T vs lo := fun w' hk => (h.no hk).up (Nat.le_trans h.hi2 hk.size) (Nat.le_refl _)
  have HUP := Lib.hid hup
  have uB := IntWalk.u64_in (D.blocks : Int) (by omega)
  have uP := IntWalk.u64_in (D.per : Int) (by omega)
  have uA := IntWalk.u64_in ((a : Int) + (c : Int)) (by omega)
  obtain ⟨C0, kc, hCe, -, -⟩ := h.c
  subst hCe
  obtain ⟨AT, kT, rfl, -, -⟩ := h.t
  clear h hfit hdata hup
  by_cases h30 : c = 0 ∨ D.blocks < a + c
  · rw [dbegin_30 D a c write data now h30]
    by_cases hc0 : c = 0
    · subst hc0
      clear h30 hf ha hc uA
      go_enter Try.func86, Try.ntmps86
      go_wp2_with fail
      refine bodyPost_ret (results_tmp3 rfl _ _ _) rfl ?_
      exact ⟨_, rfl, Sl.nil _, ⟨_, _, _, HUP.out _ (Keep.refl _ _)⟩, KeepZ.refl _ _⟩
    · have e1 : ((c : Int) == 0) = false := beq_eq_false_iff_ne.2 (by omega)
      have e2 : decide ((D.blocks : Int) < (a : Int) + (c : Int)) = true := by simp; omega
      clear h30 hf hc0
      go_enter Try.func86, Try.ntmps86
      go_wp2_with fail
      refine bodyPost_ret (results_tmp3 rfl _ _ _) rfl ?_
      exact ⟨_, rfl, Sl.nil _, ⟨_, _, _, HUP.out _ (Keep.refl _ _)⟩, KeepZ.refl _ _⟩
  · have e1 : ((c : Int) == 0) = false := beq_eq_false_iff_ne.2 (by omega)
    have e2 : decide ((D.blocks : Int) < (a : Int) + (c : Int)) = false := by simp; omega
    have HS := Lib.hid (fun W => rsplit_all a c D.per 8 W ha hc (by omega) (by decide))
    have H30 := Lib.hid h30
    have HAC := Lib.hid (show a + c ≤ D.blocks ∧ 0 < c by omega)
    have HIN := Lib.hid (split_in a c D.per 8)
    clear h30
    by_cases h11 : 64 < (split a c D.per 8).length ∨ (split a c D.per 8).length = 0
    · rw [dbegin_11 D a c write data now H30.out h11]
      generalize split a c D.per 8 = l at *
      clear hf
      go_enter Try.func86, Try.ntmps86
      go_wp2_with fail
      refine (HS.out _).mono ?_
      rintro e w1 ⟨v, rfl, hv, hk1⟩
      obtain ⟨Av, kv, rfl, -, -⟩ := hv
      have HK := Lib.hid hk1
      clear hk1
      rcases h11 with h | h
      · have g2 : decide ((64 : Int) < (l.length : Int)) = true := by simp; omega
        have g1 : decide (64 < l.length) = true := by simp; omega
        clear h
        go_wp2_with fail
        refine bodyPost_ret (results_tmp3 rfl _ _ _) rfl ?_
        exact ⟨_, rfl, Sl.nil _, ⟨_, _, _, HUP.out _ HK.out⟩, KeepZ.of HK.out⟩
      · rw [h]
        clear h
        go_wp2_with fail
        refine bodyPost_ret (results_tmp3 rfl _ _ _) rfl ?_
        exact ⟨_, rfl, Sl.nil _, ⟨_, _, _, HUP.out _ HK.out⟩, KeepZ.of HK.out⟩
    · obtain ⟨asks, hasks⟩ : ∃ asks, asks = asksOf D.chunks (D.ts.length + 1) write data (split a c D.per 8) (split a c D.per 8).length := ⟨_, rfl⟩
      rw [dbegin_ok D a c write data now H30.out h11 asks hasks]
      have HASKS := Lib.hid hasks
      have h64 : (split a c D.per 8).length ≤ 64 ∧ 0 < (split a c D.per 8).length := by omega
      clear hasks h11
      generalize split a c D.per 8 = l at *
      have g2 : decide ((64 : Int) < (l.length : Int)) = false := by simp; omega
      have g1 : decide (64 < l.length) = false := by simp; omega
      have g3 : ((l.length : Int) == 0) = false := beq_eq_false_iff_ne.2 (by omega)
      have hw1 := IntWalk.u64_in (D.ts.length : Int) (by omega)
      have hw2 := IntWalk.u64_in ((D.ts.length : Int) + 1) (by omega)
      unfold dadd
      by_cases hq : (qput D.most D.q (D.ts.length + 1) now).1 = 0
      · rw [if_pos hq]
        simp only
        rw [if_pos trivial]
        obtain ⟨q2, hq2⟩ : ∃ q2, q2 = (qput D.most D.q (D.ts.length + 1) now).2 := ⟨_, rfl⟩
        rw [← hq2]
        have HP : Hid (∀ W, RD X B W.heap.size W g D qb (.slice C0 D.chunks.length kc) (.slice AT D.ts.length kT) vs lo → Calls Try.prog 48 #[.pointer (some ⟨qb, 0, none⟩), .int .u64 ((D.ts.length + 1 : Nat) : Int), .int .u64 (now : Nat)] W fun e W' =>
            e = .returned (.int .i64 ((0 : Nat) : Int)) ∧ RAt B W' qb D.most D.pat q2 ∧ KeepZ (TR B) W W') := fun W hW => by
          have := rput_any B qb D.most D.pat (D.ts.length + 1) now D.q W hW.q hW.bsize
          rw [← hq2, hq] at this
          exact this
        clear hq hq2
        have hal : asks.length = l.length := by rw [HASKS.out, asksOf_len]
        have hrk : rkind ⟨asks, write, [], 1⟩ = if write then 1 else 2 := by
          unfold rkind
          rw [if_neg (fun e : asks = [] => by rw [e] at hal; simp at hal; omega)]
        have HAL := Lib.hid hal
        have HRK := Lib.hid hrk
        clear hal hrk hf
        have hpos := h64.2
        go_enter Try.func86, Try.ntmps86
        go_wp2_with fail
        refine (HS.out _).mono ?_
        rintro e w1 ⟨v, rfl, hv, hk1⟩
        have HV := Lib.hid hv
        obtain ⟨Av, kv, rfl, -, -⟩ := hv
        have d4 := hk1.cellSome c4 (fun h => h)
        have d3 := hk1.cellSome c3 (fun h => h)
        have HK := Lib.hid hk1
        clear hk1 c0 c1 c2 c3 c4
        go_wp2_with fail
        refine (HP.out _ (HUP.out _ HK.out)).mono ?_
        rintro e w2 ⟨rfl, hq2, hk2⟩
        have h2 := ((HUP.out _ HK.out).queue hq2 hk2).up hk2.size (Nat.le_refl _)
        have H2 := Lib.hid h2
        have HPA := Lib.hid (HV.out.keepZ hk2 (fun i ⟨_, e⟩ => by rcases e with e | e <;> simp at e))
        have HK2 := Lib.hid ((KeepZ.of HK.out).trans (hk2.mono (TR.td (X := X))))
        clear h2 hq2 hk2 d3 d4 HP HS HV
        obtain ⟨tb, htb⟩ : ∃ tb, tb = w2.heap.size := ⟨_, rfl⟩
        have hR0 : RB w2 (w2.alloc (.cells #[.int .i64 2, .slice none 0 0, .slice none 0 0, .slice none 0 0, .slice none 0 0, .int .i64 1] 149)) tb 2 (.slice none 0 0) (.slice none 0 0) (.slice none 0 0) (.slice none 0 0) 0 [] (.slice none 0 0) 0 [] (.slice none 0 0) 0 [] :=
          ⟨(Keep.refl _ _).alloc _, by omega, by rw [htb]; exact blk_at _ _ rfl, World.ownsRow_nil _ _ _ _, fun b hb => by simp [Value.ownBlock] at hb, World.ownsRow_nil _ _ _ _, fun b hb => by simp [Value.ownBlock] at hb, World.ownsRow_nil _ _ _ _, fun b hb => by simp [Value.ownBlock] at hb⟩
        have HTB := Lib.hid htb
        have HR0 := Lib.hid hR0
        clear hR0
        go_upto_if 68 with fail
        rw [← HTB.out]
        clear htb
        generalize hW0 : w2.alloc (.cells #[.int .i64 2, .slice none 0 0, .slice none 0 0, .slice none 0 0, .slice none 0 0, .int .i64 1] 149) = W0 at *
        clear hW0
        have fr0 := blk_free HR0.out.task 0
        have t0 := (blk_cell HR0.out.task 0).trans rfl
        go_cut [69] (fun _ wx => Hid (RB w2 wx tb (if write then 1 else 2) (.slice none 0 0) (.slice none 0 0) (.slice none 0 0) (.slice none 0 0) 0 [] (.slice none 0 0) 0 [] (.slice none 0 0) 0 []))
        case first =>
          cases write
          case false =>
            go_wp2_with fail
            go_meet
            exact HR0
          case true =>
            go_wp2_with fail
            go_meet
            exact HR0.out.set_ 0 (.int .i64 1) 1 (.slice none 0 0) (.slice none 0 0) (.slice none 0 0) rfl
        case rest =>
        clear HR0 fr0 t0
        obtain ⟨kind, hkind⟩ : ∃ kind : Nat, kind = if write then 1 else 2 := ⟨_, rfl⟩
        rw [← hkind] at HRK hcut
        have HRB := Lib.hid hcut.out
        clear hcut hkind
        go_wp2_with fail
        go_loopw [19] (fun iv wr => ∃ i A1 k1 A2 k2 A3 k3, i ≤ l.length ∧ iv = .int .i64 (i : Nat) ∧
          Hid (RB w2 wr tb kind (.slice A1 i k1) (.slice A2 i k2) (.slice A3 i k3) (.slice A1 i k1) i ((asksOf D.chunks (D.ts.length + 1) write data l i).flatMap acells) (.slice A2 i k2) i ((asksOf D.chunks (D.ts.length + 1) write data l i).map toldc) (.slice A3 i k3) i ((asksOf D.chunks (D.ts.length + 1) write data l i).map gotc))) (fun iv _ => l.length - (intOf iv).toNat)
        case atStart => exact ⟨0, none, 0, none, 0, none, 0, Nat.zero_le _, rfl, HRB⟩
        case round =>
          obtain ⟨i, A1, k1, A2, k2, A3, k3, hi', rfl, hB⟩ := hrel
          by_cases hlt : i < l.length
          · obtain ⟨bv, kv', hvv, hkv, p0, p1, p2, p3⟩ := (HPA.out.keepZ (T := fun _ _ => False) (KeepZ.of hB.out.keep) (fun _ h => h)).at_ i hlt
            injection hvv with hA _ hcc
            subst hA hcc
            obtain ⟨hch, hbl, hn8, hn0, hoff⟩ := HIN.out l[i] (List.getElem_mem hlt)
            have hask : askOf D.chunks (D.ts.length + 1) write data l i = askOf D.chunks (D.ts.length + 1) write data l i := rfl
            conv at hask => rhs; unfold askOf; rw [getD_at l i hlt]
            obtain ⟨f1, f2, f3, f4⟩ := HF.out
            have hr := H2.out.no hB.out.keep
            obtain ⟨-, -, c2, -, -⟩ := hr.cells
            obtain ⟨C1, kc1, hCe, hoC, -⟩ := hr.c
            injection hCe with hC1 _ hC3
            subst hC1 hC3
            have hch64 : N64 wr (.slice C0 D.chunks.length kc) D.chunks := Sl.of_own hoC
            have hchl : l[i].ch < D.chunks.length := by
              rw [hch, f4]
              have := Nat.div_le_div_right (c := D.per) (show a + l[i].off ≤ D.blocks - 1 by have := HAC.out; omega)
              omega
            obtain ⟨cb, co, k3', hv3, hk3, ccell⟩ := hch64.at_ l[i].ch hchl
            injection hv3 with hA3 _ hcc3
            subst hA3 hcc3
            have hch32 : l[i].ch < 4294967296 := by
              have := Nat.div_le_self (a + l[i].off) D.per
              have := HAC.out
              omega
            have hbl32 : l[i].bl < 4294967296 := by
              have := Nat.mod_lt (a + l[i].off) (show 0 < D.per by omega)
              omega
            have hx : D.chunks[l[i].ch] = D.chunks.getD l[i].ch 0 := by rw [List.getD_eq_getElem?_getD, List.getElem?_eq_getElem hchl]; rfl
            rw [hx] at ccell
            have hoffc : l[i].off + l[i].n ≤ 4294967296 := by omega
            have HOFF := Lib.hid hoff
            clear hch hbl f1 f2 f3 f4 hr hch64 hx hoC hoff
            generalize D.chunks.getD l[i].ch 0 = cx at *
            generalize l[i] = P at *
            obtain ⟨pch, pbl, pn, poff⟩ := P
            simp only at p0 p1 p2 p3 hask hn8 hn0 hchl ccell hch32 hbl32 hoffc HOFF
            have ub := IntWalk.u32_in (pbl : Int) (by omega)
            have un := IntWalk.u32_in (pn : Int) (by omega)
            have hi0 : (0 : Int) ≤ (pch : Int) := Int.natCast_nonneg _
            have hi1 : (pch : Int) < (D.chunks.length : Int) := by omega
            have HASK := Lib.hid hask
            have HB := Lib.hid hB.out
            clear hask hB
            generalize D.chunks.length = cl at *
            generalize D.ts.length = nt at *
            go_upto_region 16 with fail
            go_cut [20] (fun s20 wx => s20 = .pointer (some ⟨wr.heap.size, 0, none⟩) ∧ wx = (wr.alloc (.cells #[.int .u64 ((nt : Int) + 1), .int .i64 (i : Nat), .int .u64 (cx : Nat), .int .u32 (pbl : Nat), .int .u32 (pn : Nat), .bool write, .string ByteArray.empty] 137)).drew)
            case first =>
              go_region_held3 (fun W' => W'.cell? ⟨g, 2, none⟩ = some (.slice (some ⟨cb, co, none⟩) cl kc) ∧ W'.cell? ⟨cb, co + pch, none⟩ = some (.int .u64 (cx : Nat)) ∧
                W'.cell? ⟨bv, i * 4, none⟩ = some (.int .u64 (pch : Nat)) ∧ W'.cell? ⟨bv, i * 4 + 1, none⟩ = some (.int .u64 (pbl : Nat)) ∧ W'.cell? ⟨bv, i * 4 + 2, none⟩ = some (.int .u64 (pn : Nat))) (go_keep) (fail)
              all_goals
                go_wp2_with fail
                go_meet
                exact ⟨rfl, rfl⟩
            case rest =>
            obtain ⟨rfl, hwx⟩ := hcut
            have k11 : Keep No wr wc := by rw [hwx]; exact ((Keep.refl _ _).alloc _).drew
            have hask : wc.heap[wr.heap.size]? = some (.cells #[.int .u64 ((nt : Int) + 1), .int .i64 (i : Nat), .int .u64 (cx : Nat), .int .u32 (pbl : Nat), .int .u32 (pn : Nat), .bool write, .string ByteArray.empty] 137 (0, 0)) := by
              rw [hwx]
              exact blk_at wr _ rfl
            have hne11 : ∀ b, (Value.slice A1 i k1).ownBlock = some b → b ≠ wr.heap.size := fun b hb e => by
              have h1 := own_lt HB.out.p hb
              omega
            have HNE := Lib.hid hne11
            have p2 := k11.cellSome p2 (fun h => h)
            have p3 := k11.cellSome p3 (fun h => h)
            have hbs : bv ≠ wr.heap.size := Nat.ne_of_lt (World.block_lt_of_cell? wr _ p0)
            have HBS := Lib.hid (HB.out.no k11)
            have HAS := Lib.hid hask
            have hsk : w2.heap.size ≤ wr.heap.size := HB.out.keep.size
            have HSK := Lib.hid hsk
            clear hwx k11 hne11 p0 p1 c2 ccell HB hask hsk
            generalize wr.heap.size = sk at *
            have a6 := (blk_cell HAS.out 6).trans rfl
            have fr6 := blk_free HAS.out 6
            have hsb := hbs.symm
            go_upto_if 103 with fail
            go_cut [124] (fun _ wx => ∃ bs : ByteArray, Hid (RB w2 wx tb kind (.slice A1 i k1) (.slice A2 i k2) (.slice A3 i k3) (.slice A1 i k1) i ((asksOf D.chunks (nt + 1) write data l i).flatMap acells) (.slice A2 i k2) i ((asksOf D.chunks (nt + 1) write data l i).map toldc) (.slice A3 i k3) i ((asksOf D.chunks (nt + 1) write data l i).map gotc)) ∧
              Hid (wx.heap[sk]? = some (.cells #[.int .u64 ((nt : Int) + 1), .int .i64 (i : Nat), .int .u64 (cx : Nat), .int .u32 (pbl : Nat), .int .u32 (pn : Nat), .bool write, .string bs] 137 (0, 0))) ∧
              Hid (askOf D.chunks (nt + 1) write data l i = ⟨nt + 1, i, cx, pbl, pn, write, bs, false, ByteArray.empty⟩))
            case first =>
              cases write
              case false =>
                go_wp2_with fail
                go_meet
                exact ⟨ByteArray.empty, HBS, HAS, by show _ = _; rw [HASK.out]; rfl⟩
              case true =>
                have hds : data.size = 8 * c := HDATA.out rfl
                have hof := HOFF.out
                have w1' := IntWalk.u64_in (8 * (poff : Int)) (by omega)
                have w2' := IntWalk.u64_in ((poff : Int) + (pn : Int)) (by omega)
                have w3' := IntWalk.u64_in (8 * ((poff : Int) + (pn : Int))) (by omega)
                have q1 : (0 : Int) ≤ 8 * (poff : Int) := by omega
                have q2 : 8 * (poff : Int) ≤ 8 * ((poff : Int) + (pn : Int)) := by omega
                have q3 : 8 * ((poff : Int) + (pn : Int)) ≤ (data.size : Int) := by omega
                clear hds hof
                go_upto_region 18 with fail
                go_region
                go_wp2_with fail
                go_meet
                refine ⟨data.extract (8 * poff) (8 * (poff + pn)), (HBS.out.setAsk HAS.out HSK.out HNE.out 6 _).no ((Keep.refl _ _).drewN _), ((Keep.refl No _).drewN _).blk (blk_set HAS.out 6 _) (fun h => h), ?_⟩
                show _ = _
                rw [HASK.out, if_pos trivial]
            case rest =>
            obtain ⟨bs, HB15, HA15, HASK15⟩ := hcut
            clear a6 fr6 p2 p3 HBS HAS HNE
            generalize hW15 : wc = W15 at *
            clear hW15
            have t1 := (blk_cell HB15.out.task 1).trans rfl
            have a0 : W15.cell? ⟨sk, 0, none⟩ = some (.int .u64 ((nt : Int) + 1)) := (blk_cell HA15.out 0).trans rfl
            have a1 : W15.cell? ⟨sk, 1, none⟩ = some (.int .i64 (i : Nat)) := (blk_cell HA15.out 1).trans rfl
            have a2 : W15.cell? ⟨sk, 2, none⟩ = some (.int .u64 (cx : Nat)) := (blk_cell HA15.out 2).trans rfl
            have a3 : W15.cell? ⟨sk, 3, none⟩ = some (.int .u32 (pbl : Nat)) := (blk_cell HA15.out 3).trans rfl
            have a4 : W15.cell? ⟨sk, 4, none⟩ = some (.int .u32 (pn : Nat)) := (blk_cell HA15.out 4).trans rfl
            have a5 : W15.cell? ⟨sk, 5, none⟩ = some (.bool write) := (blk_cell HA15.out 5).trans rfl
            have a6 : W15.cell? ⟨sk, 6, none⟩ = some (.string bs) := (blk_cell HA15.out 6).trans rfl
            go_upto_region 20 with (at_builtin; refine wpList_bp rfl _ _ rfl ⟨nt + 1, i, cx, pbl, pn, write, bs, false, ByteArray.empty⟩ W15.heap.size (HB15.out.no ((Keep.refl _ _).alloc _)) (blk_at W15 _ rfl) rfl rfl (by omega) ?_; intro A4 c4 w4 hB4; have fr4 := blk_free hB4.task 1; have ce4 := (blk_cell hB4.task 1).trans rfl)
            have HB5 := Lib.hid (hB4.setP (.slice A4 (i + 1) c4))
            generalize w4.setCell ⟨tb, 1, none⟩ (.slice A4 (i + 1) c4) = w5 at *
            clear hB4 fr4 ce4 t1 a0 a1 a2 a3 a4 a5 a6 HB15 HA15
            have t2 := (blk_cell HB5.out.task 2).trans rfl
            go_upto_region 21 with (at_builtin; refine wpList_bt rfl _ _ rfl w5.heap.size (HB5.out.no ((Keep.refl _ _).alloc _)) (blk_at w5 _ rfl) rfl rfl (by omega) ?_; intro A6 c6 w6 hB6; have fr6 := blk_free hB6.task 2; have ce6 := (blk_cell hB6.task 2).trans rfl)
            have HB7 := Lib.hid (hB6.setT (.slice A6 (i + 1) c6))
            generalize w6.setCell ⟨tb, 2, none⟩ (.slice A6 (i + 1) c6) = w7 at *
            clear hB6 fr6 ce6 t2 HB5
            have t3 := (blk_cell HB7.out.task 3).trans rfl
            go_wp2_with (at_builtin; refine wpList_bs rfl _ _ rfl w7.heap.size (HB7.out.no ((Keep.refl _ _).alloc _)) (blk_at w7 _ rfl) rfl rfl (by omega) ?_; intro A8 c8 w8 hB8; have fr8 := blk_free hB8.task 3; have ce8 := (blk_cell hB8.task 3).trans rfl)
            refine ⟨⟨i + 1, A4, c4, A6, c6, A8, c8, by omega, by simp, ?_⟩, by simp [intOf]; omega⟩
            show RB _ _ _ _ _ _ _ _ _ _ _ _ _ _ _ _
            rw [asksOf_succ, HASK15.out, List.flatMap_append, List.map_append, List.map_append]
            have hfin := hB8.setS (.slice A8 (i + 1) c8)
            rw [List.flatMap_cons, List.flatMap_nil, List.append_nil]
            exact hfin
          · obtain rfl : i = l.length := by omega
            have hb := hB.out
            rw [← HASKS.out] at hb
            have hr := H2.out.no hb.keep
            obtain ⟨A0, k0, eT, hoT, hbT⟩ := hr.t
            injection eT with e1 _ e2
            subst e1 e2
            have d4 := hr.cells.2.2.2.2
            have hGB := hr.blk
            obtain ⟨b0, b1, b2, b3, b4, b5⟩ := hb.cell
            have HR := Lib.hid hr
            have HRB := Lib.hid hb
            have hT2 : ∀ b, (Value.slice AT D.ts.length kT).ownBlock = some b → b < w2.heap.size := fun b hbb => by
              obtain ⟨A9, k9, e9, ho9, -⟩ := H2.out.t
              rw [e9] at hbb ho9
              exact own_lt ho9 hbb
            have HT2 := Lib.hid hT2
            have hrk : tcell ⟨asks, write, [], 1⟩ ⟨.slice A1 l.length k1, .slice A2 l.length k2, .slice A3 l.length k3, .slice none 0 0⟩ = [.int .i64 (kind : Nat), .slice A1 l.length k1, .slice A2 l.length k2, .slice A3 l.length k3, .slice none 0 0, .int .i64 1] := by
              unfold tcell
              rw [HRK.out]
              rfl
            have hwn : (((wr.alloc (.cells #[.int .i64 (kind : Nat), .slice A1 l.length k1, .slice A2 l.length k2, .slice A3 l.length k3, .slice none 0 0, .int .i64 1] 149)).drew)).ownsRow 0 149 6 (.slice AT D.ts.length kT) D.ts.length ((List.range D.ts.length).flatMap (fun i => tcell (D.ts.getD i default) (vs i))) := World.ownsRow.alloc hoT _
            have hso : Sl ((wr.alloc (.cells #[.int .i64 (kind : Nat), .slice A1 l.length k1, .slice A2 l.length k2, .slice A3 l.length k3, .slice none 0 0, .int .i64 1] 149)).drew) (.slice (some ⟨wr.heap.size, 0, none⟩) 1 1) 1 (tcell ⟨asks, write, [], 1⟩ ⟨.slice A1 l.length k1, .slice A2 l.length k2, .slice A3 l.length k3, .slice none 0 0⟩) := by
              rw [hrk]
              exact Sl.lit wr _ 149 1
            have hone : ∀ u ∈ tcell ⟨asks, write, [], 1⟩ ⟨.slice A1 l.length k1, .slice A2 l.length k2, .slice A3 l.length k3, .slice none 0 0⟩, u.oneCell' = true := by
              rw [hrk]; intro u hu; simp at hu; rcases hu with rfl | rfl | rfl | rfl | rfl | rfl <;> rfl
            have h63 : D.ts.length + 1 ≤ maxLen := by simp only [maxLen]; omega
            have kn : Keep No wr ((wr.alloc (.cells #[.int .i64 (kind : Nat), .slice A1 l.length k1, .slice A2 l.length k2, .slice A3 l.length k3, .slice none 0 0, .int .i64 1] 149)).drew) := ((Keep.refl No wr).alloc _).drew
            have hKB : ∀ w', Keep (Own (.slice AT D.ts.length kT)) ((wr.alloc (.cells #[.int .i64 (kind : Nat), .slice A1 l.length k1, .slice A2 l.length k2, .slice A3 l.length k3, .slice none 0 0, .int .i64 1] 149)).drew) w' → w'.heap[g]? = some (.cells #[.int .u32 (D.per : Nat), .int .u32 (D.blocks : Nat), .slice C0 D.chunks.length kc, .pointer (some ⟨qb, 0, none⟩), .slice AT D.ts.length kT] 61 (0, 0)) :=
              fun w' hk' => hk'.blk (kn.blk hGB (fun h => h)) (fun e => by
                obtain ⟨cur, hcur⟩ := own_blk hoT e
                exact blk_ne hGB hcur (by decide) rfl)
            have e4a := kn.cellSome d4 (fun h => h)
            have e4b : (wr.alloc (.cells #[.int .i64 (kind : Nat), .slice A1 l.length k1, .slice A2 l.length k2, .slice A3 l.length k3, .slice none 0 0, .int .i64 1] 149)).cell? ⟨g, 4, none⟩ = some (.slice AT D.ts.length kT) := e4a
            clear hrk hT2 hb hr hB
            go_upto_region 22 with fail
            go_region_law (refine step_app rfl _ _ 59 rfl 149 _ 6 112 Try.underlying59 Try.info149 rfl (by decide) _ D.ts.length _ hwn rfl _ 1 _ hso rfl rfl hone (by omega) h63 ?_; intro A' k' w' ho' hk' hn'; have hb' := hKB w' hk'; have fr := blk_free hb' 4; have cc := (blk_cell hb' 4).trans rfl; have HB' := Lib.hid hb'; clear hb')
            all_goals (
              have hkT : KeepZ (TA B g) wr (w'.setCell ⟨g, 4, none⟩ (.slice A' (D.ts.length + 1) k')) := ((KeepZ.of kn).own hwn hk' (fun i hi => .inr ⟨hbT i hi, rfl⟩)).setCell HB'.out (.inl ⟨rfl, rfl⟩) _
              have hg' := blk_set HB'.out 4 (.slice A' (D.ts.length + 1) k')
              have ho2 := ownsRow_setCell_other ho' (a := ⟨g, 4, none⟩) (fun e => by
                obtain ⟨cur, hcur⟩ := own_blk ho' e
                exact blk_ne HB'.out hcur (by decide) rfl) (.slice A' (D.ts.length + 1) k')
              have hB2 : ∀ b, (Value.slice A' (D.ts.length + 1) k').ownBlock = some b → B ≤ b := fun b hb => by
                rcases hn' b hb with e | e
                · exact hbT b e
                · have := HR.out.bsize
                  have := kn.size
                  omega
              have tb1 : (w'.setCell ⟨g, 4, none⟩ (.slice A' (D.ts.length + 1) k')).cell? ⟨tb, 1, none⟩ = some (.slice A1 l.length k1) := by
                have q1 := hk'.cellSome (kn.cellSome b1 (fun h => h)) (fun e => absurd (HT2.out tb e) (Nat.not_lt.2 HRB.out.tbn))
                exact ((Keep.refl (fun k => k = g) w').setCell (p := ⟨g, 4, none⟩) (fun _ => rfl) _).cellSome q1 (fun e => blk_ne hGB HRB.out.task (by decide) e.symm)
              have rk : ∀ {e : TypeId} {size : Nat} {A : Option Addr} {k : Nat} {xs : List Value}, wr.ownsRow 0 e size (.slice A l.length k) l.length xs → e ≠ 61 → e ≠ 149 → (∀ b, (Value.slice A l.length k).ownBlock = some b → w2.heap.size ≤ b) →
                  RowIn (w'.setCell ⟨g, 4, none⟩ (.slice A' (D.ts.length + 1) k')) e size (lo D.ts.length) (w'.setCell ⟨g, 4, none⟩ (.slice A' (D.ts.length + 1) k')).heap.size l.length (.slice A l.length k) xs := fun ho h1 h2 hin =>
                have ho3 := hkT.row ho (fun i _ h => by
                  rcases h with ⟨_, h⟩ | ⟨_, h⟩
                  · injection h with h; exact h1 h
                  · injection h with h; exact h2 h)
                ⟨_, _, rfl, ho3, fun b hb => ⟨Nat.le_trans (Nat.le_trans H2.out.hi1 H2.out.hi2) (hin b hb), own_lt ho3 hb⟩⟩
              have rp := rk HRB.out.p (by decide) (by decide) HRB.out.pin
              have rt := rk HRB.out.t (by decide) (by decide) HRB.out.tin
              have rs := rk HRB.out.s (by decide) (by decide) HRB.out.sin
              have hadd := HR.out.add ⟨asks, write, [], 1⟩ ⟨.slice A1 l.length k1, .slice A2 l.length k2, .slice A3 l.length k3, .slice none 0 0⟩ A' k' hg' ho2 hB2 hkT ⟨by simp only [HAL.out]; exact rp, by simp only [HAL.out]; exact rt, by simp only [HAL.out]; exact rs, RX.nil _ _⟩
              have hout : N137 (w'.setCell ⟨g, 4, none⟩ (.slice A' (D.ts.length + 1) k')) (.slice A1 l.length k1) asks := by
                obtain ⟨_, _, e, ho, -⟩ := rp
                rw [← e] at ho
                unfold N137
                rw [HAL.out]
                exact Sl.of_own ho
              have HOUT := Lib.hid hout
              have HADD := Lib.hid hadd
              have HKK := Lib.hid ((HK2.out.then HRB.out.keep).trans (hkT.mono (TA.td HR.out.base)))
              clear hadd hkT hg' ho2 hB2 rk rp rt rs hout hwn hso hone h63 hKB e4a e4b ho' hk' hn' HB' fr cc hGB hoT hbT kn
              generalize w'.setCell ⟨g, 4, none⟩ (.slice A' (D.ts.length + 1) k') = w9 at *
              go_wp2_with fail
              go_big_quiet (fail)
              go_wp2_with fail
              refine bodyPost_ret (results_tmp3 rfl _ _ _) rfl ?_
              exact ⟨_, rfl, Sl.keep HOUT.out ((Keep.refl No _).drewN _) (fun _ _ h => h), ⟨_, _, _, HADD.out.no ((Keep.refl No _).drewN _)⟩, HKK.out.drewN _⟩)
      · simp only [if_neg hq]
        obtain ⟨code, hcode⟩ : ∃ code, code = (qput D.most D.q (D.ts.length + 1) now).1 := ⟨_, rfl⟩
        rw [← hcode] at hq ⊢
        have hqf := qput_fail D.most D.q (D.ts.length + 1) now (by rw [← hcode]; exact hq)
        have HP : Hid (∀ W, RD X B W.heap.size W g D qb (.slice C0 D.chunks.length kc) (.slice AT D.ts.length kT) vs lo → Calls Try.prog 48 #[.pointer (some ⟨qb, 0, none⟩), .int .u64 ((D.ts.length + 1 : Nat) : Int), .int .u64 (now : Nat)] W fun e W' =>
            e = .returned (.int .i64 (code : Nat)) ∧ RAt B W' qb D.most D.pat D.q ∧ KeepZ (TR B) W W') := fun W hW => by
          have := rput_any B qb D.most D.pat (D.ts.length + 1) now D.q W hW.q hW.bsize
          rw [hqf, ← hcode] at this
          exact this
        have hne : ((code : Int) != 0) = true := by rw [bne_iff_ne]; omega
        clear hq hqf hcode hf
        go_enter Try.func86, Try.ntmps86
        go_wp2_with fail
        refine (HS.out _).mono ?_
        rintro e w1 ⟨v, rfl, hv, hk1⟩
        obtain ⟨Av, kv, rfl, -, -⟩ := hv
        have d4 := hk1.cellSome c4 (fun h => h)
        have d3 := hk1.cellSome c3 (fun h => h)
        have HK := Lib.hid hk1
        clear hk1
        go_wp2_with fail
        refine (HP.out _ (HUP.out _ HK.out)).mono ?_
        rintro e w2 ⟨rfl, hq2, hk2⟩
        have h2 := (HUP.out _ HK.out).queue hq2 hk2
        have H2 := Lib.hid h2
        clear h2 hq2
        go_wp2_with fail
        refine bodyPost_ret (results_tmp3 rfl _ _ _) rfl ?_
        exact ⟨_, rfl, Sl.nil _, ⟨_, _, _, H2.out.up hk2.size (Nat.le_refl _)⟩, (KeepZ.of HK.out).trans (hk2.mono TR.td)⟩
end
end Go.Proofs.Ytimdaioojnohmaa
