/-
  (*Disk).begin walked.
-/
import Derived.Test.YtimdaioojnohmaaMDEqual
import Derived.Test.YtimdaioojnohmaaMDTold
import Derived.Test.YtimdaioojnohmaaMDPlain
import Derived.Deep.RegionHeld3
import Derived.Deep.DrawnRows
namespace Go.Proofs.Ytimdaioojnohmaa
open Go.RowKit Go.Maps
variable {X : Nat → Prop}
attribute [local go_sem ↓] Go.wp_at_zero Go.wp_at_succ

theorem toI64_F (n : Nat) (h : n < 9007199254740992) : floatToIntVal .f64 (F n) .i64 = some (n : Int) := by
  have h1 := toInt_F n h
  unfold floatToIntVal FloatKind.decode FloatKind.format
  rw [h1]
  have h2 : IntKind.i64.min ≤ (n : Int) ∧ (n : Int) ≤ IntKind.i64.max := by
    simp [IntKind.min, IntKind.max, IntKind.signed, IntKind.bits]; omega
  simp only [h2, and_self, if_true]
theorem DAt.last {B hi : Nat} {w : World} {g : Nat} {D : DD} (h : DAt X B hi w g D) : w.cell? ⟨g, 5, none⟩ = some (.int .u64 (D.ts.length : Nat)) := by
  obtain ⟨cs, hcs, -, -, h5⟩ := h.disk
  exact (blk_cell hcs 5).trans h5
/-- What a request's loop may write. -/
def TL (n : Nat) : Nat → Option TypeId → Prop := fun k s => n ≤ k ∧ (s = some 143 ∨ s = some 145 ∨ s = some 125)
/-- A request's loop in memory: pv stands in the task's block; the row of parts, the row of asks. -/
structure BSt (W w : World) (write : Bool) (pv qv : Value) (np : Nat) (Lp : List DPart) (av : Value) (na : Nat) (La : List DPart) : Prop where
  keep : KeepZ (TL W.heap.size) W w
  task : w.heap[W.heap.size]? = some (.cells #[pv, .bool write, .slice none 0 0, .int .i64 0] 143 (0, 0))
  prow : w.ownsRow 0 145 9 qv np (Lp.flatMap dcells)
  pin : ∀ b, qv.ownBlock = some b → W.heap.size ≤ b
  arow : w.ownsRow 0 125 7 av na (La.flatMap acells)
  ain : ∀ b, av.ownBlock = some b → W.heap.size ≤ b
section
variable {W w w' : World} {write : Bool} {pv qv av : Value} {np na : Nat} {Lp La : List DPart}
theorem BSt.no (h : BSt W w write pv qv np Lp av na La) (hk : Keep No w w') : BSt W w' write pv qv np Lp av na La :=
  ⟨h.keep.then hk, hk.blk h.task (fun h => h), own_keep h.prow hk (fun _ _ h => h), h.pin, own_keep h.arow hk (fun _ _ h => h), h.ain⟩
theorem BSt.cell (h : BSt W w write pv qv np Lp av na La) : w.cell? ⟨W.heap.size, 0, none⟩ = some pv := (blk_cell h.task 0).trans rfl
theorem BSt.old (h : BSt W w write pv qv np Lp av na La) : Keep No W w := h.keep.no (fun _ _ h => h.1)
end

theorem BSt.drew {W w : World} {write : Bool} {pv qv av : Value} {np na : Nat} {Lp La : List DPart} (h : BSt W w write pv qv np Lp av na La) : BSt W w.drew write pv qv np Lp av na La := h.no (Keep.refl _ _).drew
theorem BSt.alloc {W w : World} {write : Bool} {pv qv av : Value} {np na : Nat} {Lp La : List DPart} (h : BSt W w write pv qv np Lp av na La) (o : Obj) : BSt W (w.alloc o) write pv qv np Lp av na La := h.no ((Keep.refl _ _).alloc o)
/-- A field of an ask is set. -/
theorem BSt.setAsk {W w : World} {write : Bool} {pv qv av : Value} {np na : Nat} {Lp La : List DPart} (h : BSt W w write pv qv np Lp av na La) {s : Nat} {cs : Array Value} (hs : w.heap[s]? = some (.cells cs 125 (0, 0))) (hn : W.heap.size ≤ s) (hne : ∀ b, av.ownBlock = some b → b ≠ s) (j : Nat) (u : Value) :
    BSt W (w.setCell ⟨s, j, none⟩ u) write pv qv np Lp av na La := by
  have hk : KeepZ (fun k t => k = s ∧ t = some 125) w (w.setCell ⟨s, j, none⟩ u) := (KeepZ.refl _ w).setCell (p := ⟨s, j, none⟩) hs ⟨rfl, rfl⟩ _
  refine ⟨h.keep.trans (hk.mono fun k t ⟨e1, e2⟩ => ⟨e1 ▸ hn, by simp [e2]⟩), hk.blk h.task (fun ⟨_, e⟩ => by simp [sig] at e), hk.row h.prow (fun i _ ⟨_, e⟩ => by simp at e), h.pin, ?_, h.ain⟩
  exact ownsRow_setCell_other h.arow (fun e => hne s e rfl) _
/-- The task's row is set. -/
theorem BSt.setTask {W w : World} {write : Bool} {pv qv av : Value} {np na : Nat} {Lp La : List DPart} (h : BSt W w write pv qv np Lp av na La) (u : Value) : BSt W (w.setCell ⟨W.heap.size, 0, none⟩ u) write u qv np Lp av na La := by
  have hk : KeepZ (fun k t => k = W.heap.size ∧ t = some 143) w (w.setCell ⟨W.heap.size, 0, none⟩ u) := (KeepZ.refl _ w).setCell (p := ⟨W.heap.size, 0, none⟩) h.task ⟨rfl, rfl⟩ _
  exact ⟨h.keep.trans (hk.mono fun k t ⟨e1, e2⟩ => ⟨by omega, by simp [e2]⟩), blk_set h.task 0 _, hk.row h.prow (fun i _ ⟨_, e⟩ => by simp at e), h.pin, hk.row h.arow (fun i _ ⟨_, e⟩ => by simp at e), h.ain⟩
theorem ask_cells {w : World} {s : Nat} {x0 x1 x2 x3 x4 x5 x6 : Value} (h : w.heap[s]? = some (.cells #[x0, x1, x2, x3, x4, x5, x6] 125 (0, 0))) : w.cell? ⟨s, 0, none⟩ = some x0 ∧ w.cell? ⟨s, 1, none⟩ = some x1 ∧ w.cell? ⟨s, 2, none⟩ = some x2 ∧ w.cell? ⟨s, 3, none⟩ = some x3 ∧ w.cell? ⟨s, 4, none⟩ = some x4 ∧ w.cell? ⟨s, 5, none⟩ = some x5 ∧ w.cell? ⟨s, 6, none⟩ = some x6 :=
  ⟨(blk_cell h 0).trans rfl, (blk_cell h 1).trans rfl, (blk_cell h 2).trans rfl, (blk_cell h 3).trans rfl, (blk_cell h 4).trans rfl, (blk_cell h 5).trans rfl, (blk_cell h 6).trans rfl⟩
theorem step_part {ops : Array Oper} {o : Oper} {a : Act} {w : World} {K : Act → World → Prop} {Q : Exit → Act → World → Prop} {E : Prop} (hgd : o.guard = none) (ds sr : Operand)
    (ho : o.op = .call { callee := .builtin .append, args := #[ds, sr], argTypes := #[141, 141] }) {W : World} {write : Bool} {pv av : Value} {A : Option Addr} {k np na : Nat} {Lp La : List DPart} (p : DPart) (z : Nat)
    (hB : BSt W w write pv (.slice A np k) np Lp av na La) (hz : w.heap[z]? = some (.cells (dcells p).toArray 145 (0, 0))) (hv : a.eval ds = .slice A np k) (hx : a.eval sr = .slice (some ⟨z, 0, none⟩) 1 1) (hb : np ≤ 4096)
    (h : ∀ A' c' w', BSt W w' write pv (.slice A' (np + 1) c') (np + 1) (Lp ++ [p]) av na La → KeepZ (fun _ s => s = some 145) w w' → K (a.put o.dst (.slice A' (np + 1) c')) w') : if Region.wanted o (yielded ops a.tmps) = true then Oper.wp Try.prog o a w K Q else E := by
  have hs : Sl w (.slice (some ⟨z, 0, none⟩) 1 1) 1 (dcells p) := .inr ⟨z, 0, 1, rfl, Nat.le_refl _, fun j u hj => by rw [blk_cell hz, Nat.zero_add]; simpa using hj⟩
  refine step_app hgd ds sr 141 ho 145 _ 9 80 Try.underlying141 Try.info145 rfl (by decide) _ np _ hB.prow hv _ 1 (dcells p) hs hx rfl (dcells_one p) (by omega) (by simp only [maxLen]; omega) ?_
  intro A' c' w' ho' hk' hn'
  have hz' : KeepZ (fun b s => (Value.slice A np k).ownBlock = some b ∧ s = some 145) w w' := Keep.mono hk' (fun i _ hi => by obtain ⟨cur, hcur⟩ := own_blk hB.prow hi; exact ⟨_, hcur, hi, rfl⟩)
  refine h A' c' w' ⟨hB.keep.trans (hz'.mono fun k s ⟨e1, e2⟩ => ⟨hB.pin k e1, by simp [e2]⟩), hz'.blk hB.task (fun ⟨_, e⟩ => by simp [sig] at e), ?_, fun b hb => ?_, hz'.row hB.arow (fun i _ ⟨_, e⟩ => by simp at e), hB.ain⟩ (hz'.mono fun k s e => e.2)
  · rw [List.flatMap_append]
    simpa using ho'
  · rcases hn' b hb with e | e
    · exact hB.pin b e
    · have := hB.keep.size; omega
theorem step_ask {ops : Array Oper} {o : Oper} {a : Act} {w : World} {K : Act → World → Prop} {Q : Exit → Act → World → Prop} {E : Prop} (hgd : o.guard = none) (ds sr : Operand)
    (ho : o.op = .call { callee := .builtin .append, args := #[ds, sr], argTypes := #[53, 53] }) {W : World} {write : Bool} {pv qv : Value} {A : Option Addr} {k np na : Nat} {Lp La : List DPart} (p : DPart) (z : Nat)
    (hB : BSt W w write pv qv np Lp (.slice A na k) na La) (hz : w.heap[z]? = some (.cells (acells p).toArray 125 (0, 0))) (hv : a.eval ds = .slice A na k) (hx : a.eval sr = .slice (some ⟨z, 0, none⟩) 1 1) (hb : na ≤ 4096)
    (h : ∀ A' c' w', BSt W w' write pv qv np Lp (.slice A' (na + 1) c') (na + 1) (La ++ [p]) → Keep (Own (.slice A na k)) w w' → K (a.put o.dst (.slice A' (na + 1) c')) w') : if Region.wanted o (yielded ops a.tmps) = true then Oper.wp Try.prog o a w K Q else E := by
  have hs : Sl w (.slice (some ⟨z, 0, none⟩) 1 1) 1 (acells p) := .inr ⟨z, 0, 1, rfl, Nat.le_refl _, fun j u hj => by rw [blk_cell hz, Nat.zero_add]; simpa using hj⟩
  refine step_app hgd ds sr 53 ho 125 _ 7 56 Try.underlying53 Try.info125 rfl (by decide) _ na _ hB.arow hv _ 1 (acells p) hs hx rfl (acells_one p) (by omega) (by simp only [maxLen]; omega) ?_
  intro A' c' w' ho' hk' hn'
  have hz' : KeepZ (fun b s => (Value.slice A na k).ownBlock = some b ∧ s = some 125) w w' := Keep.mono hk' (fun i _ hi => by obtain ⟨cur, hcur⟩ := own_blk hB.arow hi; exact ⟨_, hcur, hi, rfl⟩)
  refine h A' c' w' ⟨hB.keep.trans (hz'.mono fun k s ⟨e1, e2⟩ => ⟨hB.ain k e1, by simp [e2]⟩), hz'.blk hB.task (fun ⟨_, e⟩ => by simp [sig] at e), hz'.row hB.prow (fun i _ ⟨_, e⟩ => by simp at e), hB.pin, ?_, fun b hb => ?_⟩ hk'
  · rw [List.flatMap_append]
    simpa using ho'
  · rcases hn' b hb with e | e
    · exact hB.ain b e
    · have := hB.keep.size; omega

set_option maxRecDepth 100000 in
set_option maxHeartbeats 4000000 in
theorem dbegin_any (B hi g a c now : Nat) (write : Bool) (data : ByteArray) (D : DD) (w : World) (h : DAt X B hi w g D) (hfit : dfit D.per D.blocks D.chunks.length = true) (hb32 : D.blocks < 4294967296) (few : D.ts.length ≤ 1048575)
    (ha : a < 4294967296) (hc : c < 4294967296) (hdata : write = true → data.size = 8 * c) :
    Calls Try.prog 71 #[.pointer (some ⟨g, 0, none⟩), .agg #[.int .u32 (a : Nat), .int .u32 (c : Nat)], .bool write, .string data, .int .u64 (now : Nat)] w fun e w' => ∃ v, e = .returned (.tuple #[.int .u64 ((dbegin D a c write data now).1 : Nat), v, .int .i64 ((dbegin D a c write data now).2.2.1 : Nat)]) ∧
      A125 w w' v (dbegin D a c write data now).2.1 ∧ DAt X B w'.heap.size w' g (dbegin D a c write data now).2.2.2 ∧ KeepZ (TP X B) w w' := by
  have hf := (dfit_iff _ _ _).1 hfit
  have H := Lib.hid h
  obtain ⟨cs, hcs, hc1, hc2, hc5⟩ := h.disk
  have k1 : Keep No w (w.alloc (.cells #[.int .u32 (a : Nat), .int .u32 (c : Nat)] 24)) := (Keep.refl _ _).alloc _
  have hob := blk_at w (.cells #[.int .u32 (a : Nat), .int .u32 (c : Nat)] 24) rfl
  obtain ⟨W1, hW1⟩ : ∃ W1, W1 = w.alloc (.cells #[.int .u32 (a : Nat), .int .u32 (c : Nat)] 24) := ⟨_, rfl⟩
  obtain ⟨sb, hsb⟩ : ∃ sb, sb = w.heap.size := ⟨_, rfl⟩
  rw [← hW1] at k1 hob
  rw [← hsb] at hob
  have hcs1 := k1.blk hcs (fun h => h)
  have s0 := (blk_cell hob 0).trans rfl
  have s1 := (blk_cell hob 1).trans rfl
  have c1 := (blk_cell hcs1 1).trans hc1
  have c2 := (blk_cell hcs1 2).trans hc2
  have HG := Lib.hid (fun W => good_any a c D.blocks W ha hc hb32)
  have HS := Lib.hid (fun W => split_all a c D.per 8 W ha hc (by omega) (by decide))
  have HW1 := Lib.hid hW1
  have HSB := Lib.hid hsb
  have K1 := Lib.hid k1
  have HFIT := Lib.hid hf
  have HOB := Lib.hid hob
  have HDATA := Lib.hid hdata
  clear hcs hc1 hc2 hc5 hcs1 hf hfit h hW1 hsb k1 hob hdata
  by_cases h30 : c = 0 ∨ D.blocks < a + c
  · rw [dbegin_30 D a c write data now h30]
    have hg : ¬ (0 < c ∧ a + c ≤ D.blocks) := by omega
    have HGF : Hid (decide (0 < c ∧ a + c ≤ D.blocks) = false) := decide_eq_false hg
    rw [HGF.out] at HG
    clear h30 hg HGF ha hc
    go_enter Try.func71, Try.ntmps71
    go_wp2_with fail
    rw [← HW1.out, ← HSB.out]
    go_region_held3 (fun W' => W'.cell? ⟨sb, 0, none⟩ = some (.int .u32 (a : Nat)) ∧ W'.cell? ⟨sb, 1, none⟩ = some (.int .u32 (c : Nat)) ∧ W'.cell? ⟨g, 2, none⟩ = some (.int .u32 (D.blocks : Nat))) (first | exact ⟨s0, s1, c2⟩ | exact ⟨d0, d1, d2⟩)
      (first | (go_at_call 89; refine (HG.out _).mono ?_; rintro e w2 ⟨rfl, k2⟩; have d0 := k2.cellSome s0 (fun h => h); have d1 := k2.cellSome s1 (fun h => h); have d2 := k2.cellSome c2 (fun h => h)))
    have k3 := ((Keep.refl No W1).drew.trans k2)
    have K3 := Lib.hid k3
    clear k2 k3
    go_wp2_with fail
    refine bodyPost_ret (results_tmp3 rfl _ _ _) rfl ?_
    have kk := K1.out.trans K3.out
    exact ⟨_, rfl, A125.nil _ _, (H.out.no kk).up (Nat.le_trans (by obtain ⟨_, _, _, _, _, _, _, _, _, _, _, _, _, _, _, _, _, _, hs⟩ := H.out; exact hs) kk.size) (Nat.le_refl _), KeepZ.of kk⟩
  · have HGT : Hid (decide (0 < c ∧ a + c ≤ D.blocks) = true) := decide_eq_true (by omega)
    rw [HGT.out] at HG
    have H30 := Lib.hid h30
    have hac : a + c ≤ D.blocks ∧ 0 < c := by omega
    have HAC := Lib.hid hac
    clear h30 HGT hac
    have hl4096 := split_len a c D.per 8
    have HIN := Lib.hid (split_in a c D.per 8)
    by_cases h11 : 64 < (split a c D.per 8).length ∨ (split a c D.per 8).length = 0
    · rw [dbegin_11 D a c write data now H30.out h11]
      generalize split a c D.per 8 = l at *
      have g1 : decide (64 < l.length) = (decide (64 < l.length)) := rfl
      go_enter Try.func71, Try.ntmps71
      go_wp2_with fail
      rw [← HW1.out, ← HSB.out]
      go_region_held3 (fun W' => W'.cell? ⟨sb, 0, none⟩ = some (.int .u32 (a : Nat)) ∧ W'.cell? ⟨sb, 1, none⟩ = some (.int .u32 (c : Nat)) ∧ W'.cell? ⟨g, 2, none⟩ = some (.int .u32 (D.blocks : Nat))) (first | exact ⟨s0, s1, c2⟩ | exact ⟨d0, d1, d2⟩)
        (first | (go_at_call 89; refine (HG.out _).mono ?_; rintro e w2 ⟨rfl, k2⟩; have d0 := k2.cellSome s0 (fun h => h); have d1 := k2.cellSome s1 (fun h => h); have d2 := k2.cellSome c2 (fun h => h); have d3 := k2.cellSome c1 (fun h => h)))
      have k3 := ((Keep.refl No W1).drew.trans k2)
      have K3 := Lib.hid k3
      clear k2 k3 s0 s1 c2 c1 g1
      go_upto_region 3 with fail
      go_region_held3 (fun W' => W'.cell? ⟨sb, 0, none⟩ = some (.int .u32 (a : Nat)) ∧ W'.cell? ⟨sb, 1, none⟩ = some (.int .u32 (c : Nat)) ∧ W'.cell? ⟨g, 1, none⟩ = some (.int .u32 (D.per : Nat))) (first | exact ⟨d0, d1, d3⟩ | exact ⟨e0, e1, e3⟩)
        (first | (go_at_call 14; refine (HS.out _).mono ?_; rintro e w3 ⟨v, rfl, hpa, k4⟩; have e0 := k4.cellSome d0 (fun h => h); have e1 := k4.cellSome d1 (fun h => h); have e3 := k4.cellSome d3 (fun h => h)))
      have k5 := K3.out.trans ((Keep.refl No w2).drew.trans k4)
      have K5 := Lib.hid (K1.out.trans k5)
      obtain ⟨Av, kv, rfl, -, -⟩ := id hpa
      clear k4 k5 d0 d1 d2 d3 e0 e1 e3 hpa
      have hfin := fun kk : Keep No w w3 => (show DAt X B w3.heap.size w3 g D from (H.out.no kk).up (Nat.le_trans (by obtain ⟨_, _, _, _, _, _, _, _, _, _, _, _, _, _, _, _, _, _, hs⟩ := H.out; exact hs) kk.size) (Nat.le_refl _))
      have HFIN := Lib.hid hfin
      clear hfin
      rcases h11 with h | h
      · have g1 : decide (64 < l.length) = true := by simp; omega
        have g2 : decide ((64 : Int) < (l.length : Int)) = true := by simp; omega
        clear h
        go_wp2_with fail
        refine bodyPost_ret (results_tmp3 rfl _ _ _) rfl ?_
        exact ⟨_, rfl, A125.nil _ _, HFIN.out K5.out, KeepZ.of K5.out⟩
      · have hl0 : l = [] := List.eq_nil_of_length_eq_zero h
        have HL0 := Lib.hid hl0
        rw [h]
        clear h hl0
        go_wp2_with fail
        refine bodyPost_ret (results_tmp3 rfl _ _ _) rfl ?_
        exact ⟨_, rfl, A125.nil _ _, HFIN.out K5.out, KeepZ.of K5.out⟩
    · obtain ⟨asks, hasks⟩ : ∃ asks, asks = asksOf D.chunks (D.ts.length + 1) write data (split a c D.per 8) (split a c D.per 8).length := ⟨_, rfl⟩
      rw [dbegin_ok D a c write data now H30.out h11 asks hasks]
      have HASKS := Lib.hid hasks
      obtain ⟨tt, htt⟩ : ∃ tt : DTask, tt = ⟨asks, write, [], 0⟩ := ⟨_, rfl⟩
      rw [← htt]
      have hadd := fun hi' tb w' h1 h2 => dadd_any (X := X) B hi' g tb now D tt w' h1 (by omega) h2
      have HTT := Lib.hid htt
      have HADD := Lib.hid hadd
      clear htt hadd
      obtain ⟨r, hr⟩ : ∃ r, r = dadd D tt now := ⟨_, rfl⟩
      rw [← hr] at HADD ⊢
      clear hr
      obtain ⟨rid, code, D2⟩ := r
      simp only at HADD ⊢
      have h64 : (split a c D.per 8).length ≤ 64 ∧ 0 < (split a c D.per 8).length := by omega
      clear hasks h11
      generalize split a c D.per 8 = l at *
      have g1 : decide (64 < l.length) = false := by simp; omega
      have g2 : decide ((64 : Int) < (l.length : Int)) = false := by simp; omega
      have g3 : ((l.length : Int) == 0) = false := beq_eq_false_iff_ne.2 (by omega)
      have hpos := h64.2
      go_enter Try.func71, Try.ntmps71
      go_wp2_with fail
      rw [← HW1.out, ← HSB.out]
      go_region_held3 (fun W' => W'.cell? ⟨sb, 0, none⟩ = some (.int .u32 (a : Nat)) ∧ W'.cell? ⟨sb, 1, none⟩ = some (.int .u32 (c : Nat)) ∧ W'.cell? ⟨g, 2, none⟩ = some (.int .u32 (D.blocks : Nat))) (first | exact ⟨s0, s1, c2⟩ | exact ⟨d0, d1, d2⟩)
        (first | (go_at_call 89; refine (HG.out _).mono ?_; rintro e w2 ⟨rfl, k2⟩; have d0 := k2.cellSome s0 (fun h => h); have d1 := k2.cellSome s1 (fun h => h); have d2 := k2.cellSome c2 (fun h => h); have d3 := k2.cellSome c1 (fun h => h)))
      have k3 := ((Keep.refl No W1).drew.trans k2)
      have K3 := Lib.hid k3
      clear k2 k3 s0 s1 c2 c1
      go_upto_region 3 with fail
      go_region_held3 (fun W' => W'.cell? ⟨sb, 0, none⟩ = some (.int .u32 (a : Nat)) ∧ W'.cell? ⟨sb, 1, none⟩ = some (.int .u32 (c : Nat)) ∧ W'.cell? ⟨g, 1, none⟩ = some (.int .u32 (D.per : Nat))) (first | exact ⟨d0, d1, d3⟩ | exact ⟨e0, e1, e3⟩)
        (first | (go_at_call 14; refine (HS.out _).mono ?_; rintro e w3 ⟨v, rfl, hpa, k4⟩; have e0 := k4.cellSome d0 (fun h => h); have e1 := k4.cellSome d1 (fun h => h); have e3 := k4.cellSome d3 (fun h => h)))
      have k5 := K3.out.trans ((Keep.refl No w2).drew.trans k4)
      have K5 := Lib.hid k5
      have K5' := Lib.hid (K1.out.trans k5)
      have hpa := PartsAt.keep hpa ((Keep.refl No w3))
      obtain ⟨Av, kv, rfl, -, -⟩ := id hpa
      have HPA := Lib.hid hpa
      clear hpa k4 k5 d0 d1 d2 d3 e0 e1 e3
      have hB0 : BSt w3 (w3.alloc (.cells #[.slice none 0 0, .bool write, .slice none 0 0, .int .i64 0] 143)) write (.slice none 0 0) (.slice none 0 0) 0 [] (.slice none 0 0) 0 [] :=
        ⟨(KeepZ.refl _ _).alloc _, blk_at _ _ rfl, World.ownsRow_nil _ _ _ _, fun b hb => by simp [Value.ownBlock] at hb, World.ownsRow_nil _ _ _ _, fun b hb => by simp [Value.ownBlock] at hb⟩
      have HB0 := Lib.hid hB0
      obtain ⟨tb, htb⟩ : ∃ tb, tb = w3.heap.size := ⟨_, rfl⟩
      have HTB := Lib.hid htb
      clear hB0
      go_wp2_with fail
      rw [← HTB.out]
      clear htb
      go_loopw [15, 48] (fun ov iv wr => ∃ i A k A2 k2, i ≤ l.length ∧ iv = .int .i64 (i : Nat) ∧ ov = .slice A2 i k2 ∧
        Hid (BSt w3 wr write (.slice A i k) (.slice A i k) i (asksOf D.chunks (D.ts.length + 1) write data l i) (.slice A2 i k2) i (asksOf D.chunks (D.ts.length + 1) write data l i))) (fun _ iv _ => l.length - (intOf iv).toNat)
      case atStart => exact ⟨0, none, 0, none, 0, Nat.zero_le _, rfl, rfl, HB0⟩
      case round =>
        obtain ⟨i, A, k, A2, kk2, hi', rfl, rfl, hB⟩ := hrel
        by_cases hlt : i < l.length
        · obtain ⟨bv, kv', hvv, hkv, p0, p1, p2⟩ := (HPA.out.keep hB.out.old).at_ i hlt
          injection hvv with hA _ hcc
          subst hA hcc
          obtain ⟨hch, hbl, hn8, hn0, hoff⟩ := HIN.out l[i] (List.getElem_mem hlt)
          have hask : askOf D.chunks (D.ts.length + 1) write data l i = askOf D.chunks (D.ts.length + 1) write data l i := rfl
          conv at hask => rhs; unfold askOf; rw [getD_at l i hlt]
          obtain ⟨f1, f2, f3, f4⟩ := HFIT.out
          have hkw : Keep No w wr := K5'.out.trans hB.out.old
          have hd := H.out.no hkw
          have c5 := hd.last
          obtain ⟨A3, k3, c3, hch64⟩ := hd.chunks
          have hchl : l[i].ch < D.chunks.length := by
            rw [hch, f4]
            have := Nat.div_le_div_right (c := D.per) (show a + l[i].off ≤ D.blocks - 1 by have := HAC.out; omega)
            omega
          obtain ⟨cb, co, k3', hv3, hk3, ccell⟩ := hch64.at_ l[i].ch hchl
          injection hv3 with hA3 _ hcc3
          subst hA3 hcc3
          have hch32 : l[i].ch < 9007199254740992 := by
            have := Nat.div_le_self (a + l[i].off) D.per
            omega
          have hbl32 : l[i].bl < 4294967296 := by
            have := Nat.mod_lt (a + l[i].off) (show 0 < D.per by omega)
            omega
          have hx : D.chunks[l[i].ch] = D.chunks.getD l[i].ch 0 := by rw [List.getD_eq_getElem?_getD, List.getElem?_eq_getElem hchl]; rfl
          rw [hx] at ccell
          have hoffc := hoff
          clear hch hbl f1 f2 f3 f4 hd hch64 hx
          generalize D.chunks.getD l[i].ch 0 = cx at *
          generalize l[i] = P at *
          obtain ⟨pch, pbl, pn, poff⟩ := P
          simp only at p0 p1 p2 hask hn8 hn0 hoff hchl ccell hch32 hbl32 hoffc
          have hcv1 := fun (w : World) => run_convert_float_int (P := Try.prog) w 33 3 .f64 .i64 (F pch) pch (by rw [Try.underlying33]; rfl) Try.underlying3 (toI64_F pch hch32)
          have hcv2 := fun (w : World) => run_convert_float_int (P := Try.prog) w 33 22 .f64 .u32 (F pbl) pbl (by rw [Try.underlying33]; rfl) Try.underlying22 (toU32_F pbl hbl32)
          have hi0 : (0 : Int) ≤ (pch : Int) := Int.natCast_nonneg _
          have hi1 : (pch : Int) < (D.chunks.length : Int) := by omega
          have hlast := IntWalk.u64_in ((D.ts.length : Int) + 1) (by omega)
          have HASK := Lib.hid hask
          have HKW := Lib.hid hkw
          have HB := Lib.hid hB.out
          clear hask hkw hB
          obtain ⟨W10, hW10⟩ : ∃ W10, W10 = wr.alloc (.cells #[.complex .f64 (F pch) (F pbl), .int .u32 (pn : Nat), .int .u32 (poff : Nat)] 32) := ⟨_, rfl⟩
          have hb17 : W10.heap[wr.heap.size]? = some (.cells #[.complex .f64 (F pch) (F pbl), .int .u32 (pn : Nat), .int .u32 (poff : Nat)] 32 (0, 0)) := by rw [hW10]; exact blk_at _ _ rfl
          have k10 : Keep No wr W10 := by rw [hW10]; exact (Keep.refl _ _).alloc _
          have HW10 := Lib.hid hW10
          have HB17 := Lib.hid hb17
          have HKK := Lib.hid k10
          clear k10
          clear hW10 hb17
          have rsc := fun (W : World) (p : Addr) => run_store Try.prog W p (.complex .f64 (F pch) (F pbl)) .plain rfl
          generalize D.chunks.length = cl at *
          generalize D.ts.length = nt at *
          go_upto_region 11 with fail
          rw [← HW10.out]
          have c5 := HKK.out.cellSome c5 (fun h => h)
          have c3 := HKK.out.cellSome c3 (fun h => h)
          have ccell := HKK.out.cellSome ccell (fun h => h)
          have z0 : W10.cell? ⟨wr.heap.size, 0, none⟩ = some (.complex .f64 (F pch) (F pbl)) := (blk_cell HB17.out 0).trans rfl
          have z1 : W10.cell? ⟨wr.heap.size, 1, none⟩ = some (.int .u32 (pn : Nat)) := (blk_cell HB17.out 1).trans rfl
          have z2 : W10.cell? ⟨wr.heap.size, 2, none⟩ = some (.int .u32 (poff : Nat)) := (blk_cell HB17.out 2).trans rfl
          generalize wr.heap.size = zb at *
          go_cut [18] (fun s18 wx => s18 = .pointer (some ⟨W10.heap.size, 0, none⟩) ∧ wx = (W10.alloc (.cells #[.int .u64 ((nt : Int) + 1), .int .i64 (i : Nat), .int .u64 (cx : Nat), .int .u32 (pbl : Nat), .int .u32 (pn : Nat), .bool write, .string ByteArray.empty] 125)).drew)
          case first =>
            go_region_held3 (fun W' => W'.cell? ⟨g, 5, none⟩ = some (.int .u64 (nt : Nat)) ∧ W'.cell? ⟨g, 3, none⟩ = some (.slice (some ⟨cb, co, none⟩) cl k3) ∧ W'.cell? ⟨cb, co + pch, none⟩ = some (.int .u64 (cx : Nat)) ∧
              W'.cell? ⟨zb, 0, none⟩ = some (.complex .f64 (F pch) (F pbl)) ∧ W'.cell? ⟨zb, 1, none⟩ = some (.int .u32 (pn : Nat))) (go_keep) (fail)
            all_goals
              go_wp2_with fail
              go_meet
              exact ⟨rfl, rfl⟩
          case rest =>
          obtain ⟨rfl, hwx⟩ := hcut
          have k11 : Keep No W10 wc := by rw [hwx]; exact ((Keep.refl _ _).alloc _).drew
          have hask : wc.heap[W10.heap.size]? = some (.cells #[.int .u64 ((nt : Int) + 1), .int .i64 (i : Nat), .int .u64 (cx : Nat), .int .u32 (pbl : Nat), .int .u32 (pn : Nat), .bool write, .string ByteArray.empty] 125 (0, 0)) := by
            rw [hwx]
            exact blk_at W10 _ rfl
          have hB11 := (HB.out.no HKK.out).no k11
          have hne11 : ∀ b, (Value.slice A2 i kk2).ownBlock = some b → b ≠ W10.heap.size := fun b hb e => by
            have h1 := own_lt HB.out.arow hb
            have h2 := HKK.out.size
            omega
          have HNE := Lib.hid hne11
          have z1 := k11.cellSome z1 (fun h => h)
          have z2 := k11.cellSome z2 (fun h => h)
          have HBS := Lib.hid hB11
          have HAS := Lib.hid hask
          have HKW := Lib.hid ((HKW.out.trans HKK.out).trans k11)
          clear hwx hB11 hne11 k11 z0 c3 c5 ccell
          have HSK : Hid (w3.heap.size ≤ W10.heap.size) := Nat.le_trans HB.out.keep.size HKK.out.size
          clear HB
          generalize W10.heap.size = sk at *
          have a6 := (blk_cell hask 6).trans rfl
          have fr6 := blk_free hask 6
          clear hask
          have hsk : w3.heap.size ≤ sk := HSK.out
          go_upto_if 78 with fail
          go_cut [19] (fun _ wx => ∃ bs : ByteArray, Hid (BSt w3 wx write (.slice A i k) (.slice A i k) i (asksOf D.chunks (nt + 1) write data l i) (.slice A2 i kk2) i (asksOf D.chunks (nt + 1) write data l i)) ∧
            Hid (wx.heap[sk]? = some (.cells #[.int .u64 ((nt : Int) + 1), .int .i64 (i : Nat), .int .u64 (cx : Nat), .int .u32 (pbl : Nat), .int .u32 (pn : Nat), .bool write, .string bs] 125 (0, 0))) ∧
            Hid (askOf D.chunks (nt + 1) write data l i = ⟨nt + 1, i, cx, pbl, pn, write, bs, false, ByteArray.empty⟩))
          case first =>
            cases write
            case false =>
              go_wp2_with fail
              go_meet
              exact ⟨ByteArray.empty, HBS, HAS, by show _ = _; rw [HASK.out]; rfl⟩
            case true =>
              have hds : data.size = 8 * c := HDATA.out rfl
              have w1' := IntWalk.i64_in (poff : Int) (by omega)
              have w2' := IntWalk.i64_in ((poff : Int) * 8) (by omega)
              have w3' := IntWalk.i64_in (pn : Int) (by omega)
              have w4' := IntWalk.i64_in ((pn : Int) * 8) (by omega)
              have w5' := IntWalk.i64_in ((poff : Int) * 8 + (pn : Int) * 8) (by omega)
              have q1 : (0 : Int) ≤ (poff : Int) * 8 := by omega
              have q2 : (poff : Int) * 8 ≤ (poff : Int) * 8 + (pn : Int) * 8 := by omega
              have q3 : (poff : Int) * 8 + (pn : Int) * 8 ≤ (data.size : Int) := by omega
              go_wp2_with fail
              go_meet
              refine ⟨data.extract (poff * 8) (poff * 8 + pn * 8), HBS.out.setAsk HAS.out hsk HNE.out 6 _, blk_set HAS.out 6 _, ?_⟩
              show _ = _
              rw [HASK.out, if_pos trivial, Nat.mul_comm 8, Nat.mul_comm 8, Nat.add_mul]
          case rest =>
          obtain ⟨bs, HB15, HA15, HASK15⟩ := hcut
          clear a6 fr6 z1 z2
          generalize hW15 : wc = W15 at *
          clear hW15
          have t0 : W15.cell? ⟨tb, 0, none⟩ = some (.slice A i k) := by rw [HTB.out]; exact HB15.out.cell
          have a0 : W15.cell? ⟨sk, 0, none⟩ = some (.int .u64 ((nt : Int) + 1)) := (blk_cell HA15.out 0).trans rfl
          have a1 : W15.cell? ⟨sk, 1, none⟩ = some (.int .i64 (i : Nat)) := (blk_cell HA15.out 1).trans rfl
          have a2 : W15.cell? ⟨sk, 2, none⟩ = some (.int .u64 (cx : Nat)) := (blk_cell HA15.out 2).trans rfl
          have a3 : W15.cell? ⟨sk, 3, none⟩ = some (.int .u32 (pbl : Nat)) := (blk_cell HA15.out 3).trans rfl
          have a4 : W15.cell? ⟨sk, 4, none⟩ = some (.int .u32 (pn : Nat)) := (blk_cell HA15.out 4).trans rfl
          have a5 : W15.cell? ⟨sk, 5, none⟩ = some (.bool write) := (blk_cell HA15.out 5).trans rfl
          have a6 : W15.cell? ⟨sk, 6, none⟩ = some (.string bs) := (blk_cell HA15.out 6).trans rfl
          have nt3 : tb < W15.heap.size := World.block_lt_of_cell? W15 _ t0
          have ns3 : sk < W15.heap.size := World.block_lt_of_cell? W15 _ a0
          have nts : tb ≠ sk := by
            rw [HTB.out]
            exact blk_ne HB15.out.task HA15.out (by decide)
          have nst : sk ≠ tb := nts.symm
          have hi4096 : i ≤ 4096 := by omega
          go_upto_region 15 with fail
          go_region_law ((first
            | (refine step_part (by rfl) _ _ (by rfl) ⟨nt + 1, i, cx, pbl, pn, write, bs, false, ByteArray.empty⟩ W15.heap.size (HB15.out.no ((Keep.refl _ _).alloc _).drew) (blk_at W15 _ rfl) (by rfl) (by rfl) hi4096 ?_; intro A4 c4 w4 hB4 hk4; have hs4 := hk4.blk (((Keep.refl No W15).alloc _).drew.blk HA15.out (fun h => h)) (fun e => by simp [sig] at e); obtain ⟨e0, e1, e2, e3, e4, e5, e6⟩ := ask_cells hs4; have z4 := blk_at w4 (.cells (acells ⟨nt + 1, i, cx, pbl, pn, write, bs, false, ByteArray.empty⟩).toArray 125) rfl)
            | (refine step_part (by rfl) _ _ (by rfl) ⟨nt + 1, i, cx, pbl, pn, write, bs, false, ByteArray.empty⟩ W15.heap.size (HB15.out.no (((Keep.refl _ _).alloc _).alloc _).drew) (blk_old (blk_at W15 _ rfl) _) (by rfl) (by rfl) hi4096 ?_; intro A4 c4 w4 hB4 hk4; have hs4 := hk4.blk ((((Keep.refl No W15).alloc _).alloc _).drew.blk HA15.out (fun h => h)) (fun e => by simp [sig] at e); obtain ⟨e0, e1, e2, e3, e4, e5, e6⟩ := ask_cells hs4; have z4 := hk4.blk (blk_at (W15.alloc _) (.cells (acells ⟨nt + 1, i, cx, pbl, pn, write, bs, false, ByteArray.empty⟩).toArray 125) (World.size_alloc _ _).symm) (fun e => by simp [sig] at e))
            | (refine step_part (by rfl) _ _ (by rfl) ⟨nt + 1, i, cx, pbl, pn, write, bs, false, ByteArray.empty⟩ (W15.heap.size + 1) (HB15.out.no (((Keep.refl _ _).alloc _).alloc _).drew) (blk_at (W15.alloc _) _ (World.size_alloc _ _).symm) (by rfl) (by rfl) hi4096 ?_; intro A4 c4 w4 hB4 hk4; have hs4 := hk4.blk ((((Keep.refl No W15).alloc _).alloc _).drew.blk HA15.out (fun h => h)) (fun e => by simp [sig] at e); obtain ⟨e0, e1, e2, e3, e4, e5, e6⟩ := ask_cells hs4; have z4 := hk4.blk (blk_old (blk_at W15 (.cells (acells ⟨nt + 1, i, cx, pbl, pn, write, bs, false, ByteArray.empty⟩).toArray 125) rfl) _) (fun e => by simp [sig] at e))
            | (refine step_ask (by rfl) _ _ (by rfl) ⟨nt + 1, i, cx, pbl, pn, write, bs, false, ByteArray.empty⟩ _ (hB4.alloc _) z4 (by rfl) (by rfl) hi4096 ?_; intro A5 c5 w5 hB5 hk5; have f5 : w5.cell? ⟨tb, 0, none⟩ = some (.slice A i k) := (by rw [HTB.out]; exact hB5.cell); have g5 : w5.frozen? ⟨tb, 0, none⟩ = false := (by rw [HTB.out]; exact blk_free hB5.task 0))
            | (refine step_ask (by rfl) _ _ (by rfl) ⟨nt + 1, i, cx, pbl, pn, write, bs, false, ByteArray.empty⟩ _ hB4 z4 (by rfl) (by rfl) hi4096 ?_; intro A5 c5 w5 hB5 hk5; have f5 : w5.cell? ⟨tb, 0, none⟩ = some (.slice A i k) := (by rw [HTB.out]; exact hB5.cell); have g5 : w5.frozen? ⟨tb, 0, none⟩ = false := (by rw [HTB.out]; exact blk_free hB5.task 0))))
          all_goals
            go_wp2_with fail
            refine ⟨⟨i + 1, A4, c4, A5, c5, by omega, by simp, rfl, ?_⟩, by simp [intOf]; omega⟩
            show BSt _ _ _ _ _ _ _ _ _ _
            rw [asksOf_succ, HASK15.out, HTB.out]
            exact hB5.setTask _
        · obtain rfl : i = l.length := by omega
          have hkw : Keep No w wr := K5'.out.trans hB.out.old
          have hal : asks.length = l.length := by rw [HASKS.out, asksOf_len]
          have hT : TAt X wr w3.heap.size wr.heap.size tb tt := by
            have hb := hB.out
            rw [← HASKS.out] at hb
            rw [HTT.out, HTB.out]
            refine ⟨Nat.le_refl _, lt_of_block hb.task, A, k, .slice none 0 0, ?_, ?_, fun b hbb => ?_, RX.nil _ _⟩
            · simp only [hal]; exact hb.task
            · simp only [hal]; exact hb.prow
            · simp only [hal] at hbb; exact ⟨hb.pin b hbb, own_lt hb.prow hbb⟩
          have hD1 : DAt X B w3.heap.size wr g D := by
            have h1 := (H.out.no K5'.out).up (hi' := w3.heap.size) (Nat.le_trans (by obtain ⟨_, _, _, _, _, _, _, _, _, _, _, _, _, _, _, _, _, _, hs⟩ := H.out; exact hs) K5'.out.size) (Nat.le_refl _)
            exact h1.no hB.out.old
          have HA := Lib.hid (HADD.out w3.heap.size tb wr hD1 hT)
          have hout : A125 w wr (.slice A2 l.length kk2) asks := by
            have hb := hB.out
            rw [← HASKS.out] at hb
            refine ⟨A2, kk2, by rw [hal], ?_, fun b hbb => ?_⟩
            · rw [hal]; exact hb.arow
            · rw [hal] at hbb; exact Nat.le_trans K5'.out.size (hb.ain b hbb)
          have HOUT := Lib.hid hout
          have HKW := Lib.hid hkw
          clear hout hT hD1 hkw hB
          go_wp2_with fail
          refine HA.out.mono ?_
          rintro e w5 ⟨rfl, hd5, hk5⟩
          have HD5 := Lib.hid hd5
          have HK5 := Lib.hid ((KeepZ.of HKW.out).trans hk5)
          have hout5 : A125 w w5 (.slice A2 l.length kk2) asks := by
            obtain ⟨A9, k9, e, ho9, hb9⟩ := HOUT.out
            exact ⟨A9, k9, e, hk5.row ho9 (fun i _ ⟨_, h⟩ => by rcases h with h | h | h | h | h | h <;> simp at h), hb9⟩
          have HOUT5 := Lib.hid hout5
          clear hd5 hk5 hout5
          by_cases hc0 : code = 0
          · subst hc0
            go_wp2_with fail
            refine bodyPost_ret (results_tmp3 rfl _ _ _) rfl ?_
            exact ⟨_, rfl, HOUT5.out, HD5.out, HK5.out⟩
          · have hce : ((code : Int) == 0) = false := beq_eq_false_iff_ne.2 (by omega)
            have hcn : ((code : Int) != 0) = true := by rw [bne_iff_ne]; omega
            go_wp2_with fail
            refine bodyPost_ret (results_tmp3 rfl _ _ _) rfl ?_
            exact ⟨_, rfl, A125.nil _ _, HD5.out, HK5.out⟩
end Go.Proofs.Ytimdaioojnohmaa
