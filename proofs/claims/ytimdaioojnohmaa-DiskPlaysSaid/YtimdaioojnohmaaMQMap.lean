/-
  A map from numbers to numbers that the call has made, as a function; a queue that may be none.
  The law QueueParts walked, with queue.Part at rows of numbers.
-/
import Derived.Test.YtimdaioojnohmaaMQPart
import Derived.Test.YtimdaioojnohmaaMLaw
import Derived.Maps.OwnOps
import Derived.Maps.Views
namespace Go.Proofs.Ytimdaioojnohmaa
open Go.RowKit Go.Maps

theorem key29 : Keyed Try.prog 29 := int_keyed Try.underlying29
theorem zero29 (w : World) : (zeroValue 29).run Try.prog w = .ok (.int .u64 0) w := by kernel_rfl
theorem wf64 {n : Nat} (h : n < 18446744073709551616) : (Lit.int .u64 n).wf = true := by
  simp [Lit.wf, IntKind.min, IntKind.max, IntKind.signed, IntKind.bits]
  omega
/-- Block b is a map of at most n entries, which answers f. -/
def MapIs (w : World) (b n : Nat) (f : Nat → Nat) : Prop :=
  ∃ D : DataW Unit, w.ownsMap Try.prog 29 (plainElem Try.prog 29) b n D ∧ IsMap D ∧ ∀ id, id < 18446744073709551616 → D.atKey (.int .u64 (id : Nat)) (.lit (.int .u64 0)) = .lit (.int .u64 (f id : Nat))
theorem MapIs.made (w : World) : MapIs (w.alloc (.map #[] 0)) w.heap.size 0 (fun _ => 0) := ⟨.map [], World.ownsMap_made _ _ _ _, ⟨_, rfl⟩, fun _ _ => rfl⟩
theorem MapIs.block {w w' : World} {b n : Nat} {f : Nat → Nat} (h : MapIs w b n f) (hb : w'.heap[b]? = w.heap[b]?) : MapIs w' b n f := by
  obtain ⟨D, ⟨es, clock, h0, r⟩, h1⟩ := h
  exact ⟨D, ⟨es, clock, hb.trans h0, r⟩, h1⟩
theorem MapIs.at_ {w : World} {b n : Nat} {f : Nat → Nat} (h : MapIs w b n f) : ∃ es c, w.heap[b]? = some (.map es c) := by
  obtain ⟨D, ⟨es, clock, h0, r⟩, h1⟩ := h
  exact ⟨es, clock, h0⟩
theorem MapIs.keepZ {w w' : World} {b n : Nat} {f : Nat → Nat} {T : Nat → Option TypeId → Prop} (h : MapIs w b n f) (hk : KeepZ T w w') (hT : ¬ T b none) : MapIs w' b n f := by
  obtain ⟨es, c, hb⟩ := h.at_
  exact h.block ((hk.blk hb hT).trans hb.symm)
theorem MapIs.no {w w' : World} {b n : Nat} {f : Nat → Nat} (h : MapIs w b n f) (hk : Keep No w w') : MapIs w' b n f := h.keepZ (T := fun _ _ => False) (KeepZ.of hk) id
theorem wpList_look (w : World) {ops : Array Oper} {rest : List Oper} {o : Oper} {a : Act} {Q : Exit → Act → World → Prop} (hg : o.guard = none) (m x : Operand) (hop : o.op = Op.lookup 91 m x false) (b n : Nat) (f : Nat → Nat)
    (hm : a.eval m = .map (some b)) (hown : MapIs w b n f) (id : Nat) (hid : id < 18446744073709551616) (hx : a.eval x = .int .u64 (id : Nat)) (hK : wpList Try.prog ops Q rest (a.put o.dst (.int .u64 (f id : Nat))) w) : wpList Try.prog ops Q (o :: rest) a w := by
  obtain ⟨D, h0, -, h2⟩ := hown
  refine wpList_lookup_own_int w hg m x 91 hop 29 29 .u64 key29 Try.underlying91 Try.underlying29 (zero29 w) b n D hm h0 _ _ hx (keyOf_int_mk Try.underlying29 (wf64 hid)) ?_
  intro c hat hwc
  rw [h2 id hid] at hat
  injection hat with hat
  injection hat with _ hat
  rw [← hat]
  exact hK
theorem wpList_keep (w : World) {ops : Array Oper} {rest : List Oper} {o : Oper} {a : Act} {Q : Exit → Act → World → Prop} (hg : o.guard = none) (m x v : Operand) (hop : o.op = Op.mapUpdate 91 m x v) (b n : Nat) (f : Nat → Nat)
    (hm : a.eval m = .map (some b)) (hown : MapIs w b n f) (hn : n < maxLen) (id t : Nat) (hid : id < 18446744073709551616) (ht : t < 18446744073709551616) (hx : a.eval x = .int .u64 (id : Nat)) (hv : a.eval v = .int .u64 (t : Nat))
    (hK : ∀ w', MapIs w' b (n + 1) (fun j => if j = id then t else f j) → KeepZ (fun k s => k = b ∧ s = none) w w' → wpList Try.prog ops Q rest (a.put o.dst undef) w') : wpList Try.prog ops Q (o :: rest) a w := by
  have hat := hown.at_
  obtain ⟨D, h0, h1, h2⟩ := hown
  refine wpList_mapUpdate_own w hg m x v 91 hop 29 29 key29 Try.underlying91 (plainElem Try.prog 29) b n D hm h0 hn _ _ _ hx hv (keyOf_int_mk Try.underlying29 (wf64 hid)) _ [] (plainElem_int Try.underlying29 (wf64 ht)) ?_
  intro w' hw' hgr
  refine hK w' ⟨_, hw', ?_, fun j hj => ?_⟩ ?_
  · obtain ⟨es, rfl⟩ := h1
    exact ⟨_, rfl⟩
  · show _ = DataW.lit (.int .u64 ((if j = id then t else f j : Nat) : Int))
    by_cases e : j = id
    · rw [if_pos e]
      subst e
      exact atKey_put_same h1 (key29.key (keyOf_int_mk Try.underlying29 (wf64 hj))) _ _
    · rw [if_neg e, atKey_put_other (fun h => e (by injection h with _ h; omega))]
      exact h2 j hj
  · obtain ⟨es, c, hb⟩ := hat
    exact Keep.mono ((Keep.refl (fun k => k = b) w).grown hgr (fun k hk _ => by injection hk with hk; exact hk.symm)) (fun i _ hi => by obtain rfl : i = b := hi; exact ⟨_, hb, rfl, rfl⟩)

/-- The program's queue p, which may be none. -/
def PQ (B : Nat) (w : World) (p : Value) (pat : Nat) (q : QL) : Prop := (p = .pointer none ∧ q = []) ∨ ∃ g most, p = .pointer (some ⟨g, 0, none⟩) ∧ QAt B w g most pat q ∧ 0 < most
section
variable {B pat : Nat} {w w' : World} {p : Value} {q : QL}
theorem PQ.keep {T : Nat → Option TypeId → Prop} (h : PQ B w p pat q) (hk : KeepZ T w w') (hT : ∀ k, ¬ T k (some 116) ∧ ¬ T k (some 160)) : PQ B w' p pat q := by
  rcases h with h | ⟨g, most, rfl, h, h0⟩
  · exact .inl h
  · exact .inr ⟨g, most, rfl, h.keep hk hT, h0⟩
theorem PQ.no (h : PQ B w p pat q) (hk : Keep No w w') : PQ B w' p pat q := h.keep (T := fun _ _ => False) (KeepZ.of hk) (fun _ => ⟨id, id⟩)
theorem pnew (a : Int) (n : Nat) (w : World) (ha : -9223372036854775808 ≤ a ∧ a ≤ 9223372036854775807) (hn : n < 18446744073709551616) : Calls Try.prog 41 #[.int .i64 a, .int .u64 n] w fun e w' => ∃ p, e = .returned p ∧ PQ w.heap.size w' p n [] ∧ Keep No w w' := by
  by_cases hbad : a < 1 ∨ 64 < a ∨ n = 0
  · exact (qnew_bad a n w hbad ha.1 ha.2).mono fun _ _ ⟨he, hw⟩ => ⟨_, he, .inl ⟨rfl, rfl⟩, hw ▸ Keep.refl _ _⟩
  · obtain ⟨most, rfl⟩ := Int.eq_ofNat_of_zero_le (show 0 ≤ a by omega)
    exact (qnew_any most n w (by omega) (by omega) (by omega) hn).mono fun _ _ ⟨he, hq, hw⟩ => ⟨_, he, .inr ⟨_, most, rfl, hq, by omega⟩, by rw [hw]; exact (Keep.refl _ _).alloc _⟩
theorem plate (now : Nat) (h : PQ B w p pat q) (hBw : B ≤ w.heap.size) (hnow : now < 18446744073709551616) (hQB : QB q) : Calls Try.prog 42 #[p, .int .u64 now] w fun e w' => ∃ r, e = .returned r ∧ N64 w' r (qlate pat q now).1 ∧ PQ B w' p pat (qlate pat q now).2 ∧ KeepZ (TQ B) w w' := by
  rcases h with ⟨rfl, rfl⟩ | ⟨g, most, rfl, h, h0⟩
  · exact (qlate_nobody w _ now (.inl rfl)).mono fun _ _ ⟨he, hk⟩ => ⟨_, he, Sl.nil _, .inl ⟨rfl, rfl⟩, KeepZ.of hk⟩
  · exact (qlate_any B g most pat now q w h h0 hBw hnow hQB).mono fun _ _ ⟨r, he, hr, hq, hk⟩ => ⟨r, he, hr.n64, .inr ⟨g, most, rfl, hq, h0⟩, hk⟩
theorem pall (h : PQ B w p pat q) : Calls Try.prog 43 #[p] w fun e w' => ∃ r, e = .returned r ∧ N64 w' r (q.map (·.1)) ∧ Keep No w w' := by
  rcases h with ⟨rfl, rfl⟩ | ⟨g, most, rfl, h, h0⟩
  · exact (qall_nil w).mono fun _ _ ⟨he, hw⟩ => ⟨_, he, Sl.nil _, hw ▸ Keep.refl _ _⟩
  · exact (qall_any B g most pat q w h).mono fun _ _ ⟨r, he, hr, hk⟩ => ⟨r, he, hr.n64, hk⟩
theorem pput (id now : Nat) (h : PQ B w p pat q) (hBw : B ≤ w.heap.size) : Calls Try.prog 44 #[p, .int .u64 id, .int .u64 now] w fun e w' => ∃ (c : Nat) (q' : QL), e = .returned (.int .i64 (c : Nat)) ∧ PQ B w' p pat q' ∧ KeepZ (TQ B) w w' ∧
    ((c = 0 ∧ q' = q ++ [(id, now)] ∧ qhas q id = false) ∨ (c ≠ 0 ∧ q' = q)) := by
  rcases h with ⟨rfl, rfl⟩ | ⟨g, most, rfl, h, h0⟩
  · exact (qput_nobody w _ id now (.inl rfl)).mono fun _ _ ⟨he, hw⟩ => ⟨1, [], he, .inl ⟨rfl, rfl⟩, hw ▸ KeepZ.refl _ _, .inr ⟨by decide, rfl⟩⟩
  · refine (qput_any B g most pat id now q w h h0 hBw).mono fun _ _ ⟨he, hq, hk⟩ => ⟨_, _, he, .inr ⟨g, most, rfl, hq, h0⟩, hk, ?_⟩
    unfold qput
    by_cases e1 : qhas q id = true
    · rw [if_pos e1]; exact .inr ⟨Nat.succ_ne_zero _, rfl⟩
    · rw [if_neg e1]
      by_cases e2 : most ≤ q.length
      · rw [if_pos e2]; exact .inr ⟨Nat.succ_ne_zero _, rfl⟩
      · rw [if_neg e2]; exact .inl ⟨rfl, rfl, by simpa using e1⟩
end
end Go.Proofs.Ytimdaioojnohmaa

namespace Go.Proofs.Ytimdaioojnohmaa
open Go.RowKit

theorem Rd.at_ {w : World} {v : Value} {l : List Nat} (h : Rd w v l.length (l.map u64v)) (i : Nat) (hi : i < l.length) : ∃ b o c, v = .slice (some ⟨b, o, none⟩) l.length c ∧ l.length ≤ c ∧ w.cell? ⟨b, o + i, none⟩ = some (.int .u64 (l[i] : Nat)) := by
  obtain ⟨A, c, rfl, hc, hx⟩ := h
  obtain ⟨b, o, rfl, hcell⟩ := hx i (.int .u64 (l[i] : Nat)) (by simp [hi, u64v])
  exact ⟨b, o, c, rfl, hc, hcell⟩
theorem below_any (x n g : Nat) (w : World) (h : w.cell? ⟨g, 0, none⟩ = some (.int .u64 (n : Nat))) : Calls Try.prog 46 #[.int .u64 x, .pointer (some ⟨g, 0, none⟩)] w fun e w' => e = .returned (.bool (decide (x < n))) ∧ w = w' := by
  by_cases he : x < n
  · have h1 : decide ((x : Int) < (n : Int)) = true := by simp; omega
    have HD := Lib.hid (decide_eq_true he)
    clear he
    go_enter Try.func46, Try.ntmps46
    go_wp2_with fail
    go_ret
    exact ⟨by first | rfl | exact ret_bool (h1.trans HD.out.symm), rfl⟩
  · have h1 : decide ((x : Int) < (n : Int)) = false := by simp; omega
    have HD := Lib.hid (decide_eq_false he)
    clear he
    go_enter Try.func46, Try.ntmps46
    go_wp2_with fail
    go_ret
    exact ⟨by first | rfl | exact ret_bool (h1.trans HD.out.symm), rfl⟩

theorem part_below (n g : Nat) (v : Value) (l : List Nat) (w : World) (hg : w.cell? ⟨g, 0, none⟩ = some (.int .u64 (n : Nat))) (h : Rd w v l.length (l.map u64v)) (hl : l.length ≤ 200) :
    Calls Try.prog 45 #[v, .func (.func 46) #[] #[.pointer (some ⟨g, 0, none⟩)]] w fun e w' => ∃ y m, e = .returned (.tuple #[y, m]) ∧ New64 w w' y (l.filter (fun x => decide (x < n))) ∧ New64 w w' m (l.filter (fun x => !decide (x < n))) ∧ Keep No w w' := by
  obtain ⟨A, c, rfl, hlc, -⟩ := id h
  have H := Lib.hid h
  have HG := Lib.hid hg
  clear h hg
  go_enter Try.func45, Try.ntmps45
  go_wp2_with fail
  go_loopw [4, 5, 10] (fun yv nv iv wr => ∃ i Y N A1 k1 A2 k2, i ≤ l.length ∧ iv = .int .i64 (i : Nat) ∧ Hid (Y = (l.take i).filter (fun x => decide (x < n))) ∧ Hid (N = (l.take i).filter (fun x => !decide (x < n))) ∧ yv = .slice A1 Y.length k1 ∧ nv = .slice A2 N.length k2 ∧
    wr.ownsRow 0 29 1 (.slice A1 Y.length k1) Y.length (Y.map u64v) ∧ wr.ownsRow 0 29 1 (.slice A2 N.length k2) N.length (N.map u64v) ∧
    (∀ b, (Value.slice A1 Y.length k1).ownBlock = some b → w.heap.size ≤ b) ∧ (∀ b, (Value.slice A2 N.length k2).ownBlock = some b → w.heap.size ≤ b) ∧
    (∀ b, (Value.slice A1 Y.length k1).ownBlock = some b → ¬ (Value.slice A2 N.length k2).ownBlock = some b) ∧ Keep No w wr ∧ Y.length ≤ i ∧ N.length ≤ i) (fun _ _ iv _ => l.length - (intOf iv).toNat)
  case atStart => exact ⟨0, [], [], none, 0, none, 0, Nat.zero_le _, rfl, by show _ = _; simp, by show _ = _; simp, rfl, rfl, World.ownsRow_nil _ _ _ _, World.ownsRow_nil _ _ _ _, fun b hb => by simp [Value.ownBlock] at hb, fun b hb => by simp [Value.ownBlock] at hb, fun b hb => by simp [Value.ownBlock] at hb, Keep.refl _ _, by simp, by simp⟩
  case round =>
    obtain ⟨i, Y, N, A1, k1, A2, k2, hi, rfl, hY, hN, rfl, rfl, ho1, ho2, hA1, hA2, hne, hk, hl1, hl2⟩ := hrel
    by_cases hlt : i < l.length
    · obtain ⟨b, o, c', hv, hc', hc1⟩ := (H.out.keep hk).at_ i hlt
      injection hv with hAA _ hcc
      subst hAA hcc
      have hcall := below_any l[i] n g wr (hk.cellSome HG.out (fun h => h))
      have tY := filter_take (fun x => decide (x < n)) l i hlt
      have tN := filter_take (fun x => !decide (x < n)) l i hlt
      rw [← hY.out] at tY
      rw [← hN.out] at tN
      have HC := Lib.hid hcall
      clear hcall
      cases hp : decide (l[i] < n)
      · rw [hp] at HC tY tN
        simp only [Bool.false_eq_true, if_false, List.append_nil, Bool.not_false, if_true] at tY tN
        have HTY := Lib.hid tY
        have HTN := Lib.hid tN
        clear tY tN hp
        generalize l[i] = x at *
        go_wp2_with fail
        refine HC.out.mono ?_
        rintro e w2 ⟨rfl, rfl⟩
        have hwn : (wr.alloc (.cells #[.int .u64 (x : Nat)] 29)).ownsRow 0 29 1 (.slice A2 N.length k2) N.length (N.map u64v) := ho2.alloc _
        have hso : Sl (wr.alloc (.cells #[.int .u64 (x : Nat)] 29)) (.slice (some ⟨wr.heap.size, 0, none⟩) 1 1) 1 ([x].map u64v) := Sl.lit _ _ 29 1
        have hone := u64v_one [x]
        have h63 : N.length + 1 ≤ maxLen := by simp only [maxLen]; omega
        have kn : Keep No w (wr.alloc (.cells #[.int .u64 (x : Nat)] 29)) := hk.alloc _
        go_wp2_with (at_builtin; refine wpList_app rfl _ _ 41 rfl 29 _ 1 8 Try.underlying41 Try.info29 rfl (by decide) _ N.length _ hwn rfl _ 1 ([x].map u64v) hso rfl rfl hone (by omega) h63 ?_; intro A' k' w' ho' hk' hn')
        have hsz : wr.heap.size ≤ (wr.alloc (.cells #[.int .u64 (x : Nat)] 29)).heap.size := by rw [World.size_alloc]; omega
        have hY1 : ∀ b, (Value.slice A1 Y.length k1).ownBlock = some b → b < wr.heap.size := fun b hb => own_lt ho1 hb
        refine ⟨⟨i + 1, Y, N ++ [x], A1, k1, A', k', by omega, by simp, HTY.out.symm, HTN.out.symm, rfl, by rw [List.length_append]; rfl, ?_, ?_, hA1, ?_, ?_, kn.fresh hk' hA2, by omega, by rw [List.length_append]; simp; omega⟩, by simp [intOf]; omega⟩
        · exact own_keep (ho1.alloc (.cells #[.int .u64 (x : Nat)] 29)) hk' (fun b hb e => hne b hb e)
        · rw [List.length_append, List.map_append]; exact ho'
        · intro b hb
          rw [List.length_append] at hb
          rcases hn' b hb with e | e
          · exact hA2 b e
          · have := kn.size; omega
        · intro b hb e
          rw [List.length_append] at e
          rcases hn' b e with e | e
          · exact hne b hb e
          · have := hY1 b hb; omega
      · rw [hp] at HC tY tN
        simp only [Bool.false_eq_true, if_false, List.append_nil, Bool.not_true, if_true] at tY tN
        have HTY := Lib.hid tY
        have HTN := Lib.hid tN
        clear tY tN hp
        generalize l[i] = x at *
        go_wp2_with fail
        refine HC.out.mono ?_
        rintro e w2 ⟨rfl, rfl⟩
        have hwn : (wr.alloc (.cells #[.int .u64 (x : Nat)] 29)).ownsRow 0 29 1 (.slice A1 Y.length k1) Y.length (Y.map u64v) := ho1.alloc _
        have hso : Sl (wr.alloc (.cells #[.int .u64 (x : Nat)] 29)) (.slice (some ⟨wr.heap.size, 0, none⟩) 1 1) 1 ([x].map u64v) := Sl.lit _ _ 29 1
        have hone := u64v_one [x]
        have h63 : Y.length + 1 ≤ maxLen := by simp only [maxLen]; omega
        have kn : Keep No w (wr.alloc (.cells #[.int .u64 (x : Nat)] 29)) := hk.alloc _
        go_wp2_with (at_builtin; refine wpList_app rfl _ _ 41 rfl 29 _ 1 8 Try.underlying41 Try.info29 rfl (by decide) _ Y.length _ hwn rfl _ 1 ([x].map u64v) hso rfl rfl hone (by omega) h63 ?_; intro A' k' w' ho' hk' hn')
        have hsz : wr.heap.size ≤ (wr.alloc (.cells #[.int .u64 (x : Nat)] 29)).heap.size := by rw [World.size_alloc]; omega
        have hN1 : ∀ b, (Value.slice A2 N.length k2).ownBlock = some b → b < wr.heap.size := fun b hb => own_lt ho2 hb
        refine ⟨⟨i + 1, Y ++ [x], N, A', k', A2, k2, by omega, by simp, HTY.out.symm, HTN.out.symm, by rw [List.length_append]; rfl, rfl, ?_, ?_, ?_, hA2, ?_, kn.fresh hk' hA1, by rw [List.length_append]; simp; omega, by omega⟩, by simp [intOf]; omega⟩
        · rw [List.length_append, List.map_append]; exact ho'
        · exact own_keep (ho2.alloc (.cells #[.int .u64 (x : Nat)] 29)) hk' (fun b hb e => hne b e hb)
        · intro b hb
          rw [List.length_append] at hb
          rcases hn' b hb with e | e
          · exact hA1 b e
          · have := kn.size; omega
        · intro b hb e
          rw [List.length_append] at hb
          rcases hn' b hb with h | h
          · exact hne b h e
          · have := hN1 b e; omega
    · obtain rfl : i = l.length := by omega
      go_wp2_with fail
      go_ret2
      have hY' := hY.out
      have hN' := hN.out
      rw [List.take_length] at hY' hN'
      rw [← hY', ← hN']
      exact ⟨_, _, rfl, ⟨A1, k1, rfl, ho1, hA1⟩, ⟨A2, k2, rfl, ho2, hA2⟩, hk⟩

theorem filter_at {α : Type} (p : α → Bool) (l : List α) (i : Nat) (h : i < l.length) (hp : p l[i] = true) : ∃ hj : ((l.take i).filter p).length < (l.filter p).length, (l.filter p)[((l.take i).filter p).length] = l[i] := by
  have hs : l = l.take i ++ l[i] :: l.drop (i + 1) := by rw [List.getElem_cons_drop, List.take_append_drop]
  have hf : l.filter p = (l.take i).filter p ++ l[i] :: (l.drop (i + 1)).filter p := by
    conv => lhs; rw [hs]
    rw [List.filter_append, List.filter_cons, if_pos hp]
  have hj : ((l.take i).filter p).length < (l.filter p).length := by rw [hf, List.length_append]; simp
  refine ⟨hj, ?_⟩
  have : (l.filter p)[((l.take i).filter p).length]? = some l[i] := by rw [hf, List.getElem?_append_right (Nat.le_refl _)]; simp
  rw [List.getElem?_eq_getElem hj] at this
  exact Option.some.inj this


theorem queueParts_any (v : Value) (l : List Nat) (n : Nat) (w : World) (h : Rd w v l.length (l.map u64v)) (_hb : ∀ a ∈ l, a < 18446744073709551616) : Calls Try.prog 9 #[v, .int .u64 n] w fun e w' => e = .returned (.bool true) ∧ Keep No w w' := by
  clear _hb
  have k0 : Keep No w (w.alloc (.cells #[.int .u64 (n : Nat)] 29)) := (Keep.refl _ _).alloc _
  by_cases h2 : 200 < l.length
  · obtain ⟨A, c, rfl, hlc, -⟩ := h
    have hd : decide ((200 : Int) < (l.length : Int)) = true := by simp; omega
    have HL := Lib.hid (lives38_any (w.alloc (.cells #[.int .u64 (n : Nat)] 29)))
    go_enter Try.func9, Try.ntmps9
    go_wp2_with fail
    refine HL.out.mono ?_
    rintro e w1 ⟨rfl, k1⟩
    go_wp2_with fail
    go_ret
    exact ⟨rfl, k0.trans k1⟩
  · have g0 := (blk_cell (blk_at w (.cells #[.int .u64 (n : Nat)] 29) rfl) 0).trans rfl
    have hp := part_below n w.heap.size v l _ g0 (h.keep k0) (by omega)
    have HP := Lib.hid hp
    obtain ⟨A, c, rfl, hlc, -⟩ := id h
    have H := Lib.hid h
    have HG := Lib.hid g0
    clear hp h
    go_enter Try.func9, Try.ntmps9
    go_wp2_with fail
    refine HP.out.mono ?_
    rintro e w1 ⟨y, m, rfl, hy, hm, k1⟩
    have hy := hy.n64
    have hm := hm.n64
    obtain ⟨Ay, cy, rfl, -⟩ := Sl.shape hy
    obtain ⟨Am, cm, rfl, -⟩ := Sl.shape hm
    have HY := Lib.hid hy
    have HM := Lib.hid hm
    clear hy hm
    have hly : (l.filter (fun x => decide (x < n))).length ≤ l.length := List.length_filter_le _ _
    have hlm : (l.filter (fun x => !decide (x < n))).length ≤ l.length := List.length_filter_le _ _
    obtain ⟨Yl, hYl⟩ : ∃ Yl, Yl = l.filter (fun x => decide (x < n)) := ⟨_, rfl⟩
    obtain ⟨Nl, hNl⟩ : ∃ Nl, Nl = l.filter (fun x => !decide (x < n)) := ⟨_, rfl⟩
    rw [← hYl] at HY hly ⊢
    rw [← hNl] at HM hlm ⊢
    have HYl := Lib.hid hYl
    have HNl := Lib.hid hNl
    clear hYl hNl
    go_wp2_with fail
    go_loopw [7, 8, 23] (fun yv nv iv wr => ∃ i a b, i ≤ l.length ∧ iv = .int .i64 (i : Nat) ∧ yv = .int .i64 (a : Nat) ∧ nv = .int .i64 (b : Nat) ∧ Hid (a = ((l.take i).filter (fun x => decide (x < n))).length) ∧ Hid (b = ((l.take i).filter (fun x => !decide (x < n))).length) ∧ a ≤ i ∧ b ≤ i ∧ w1 = wr) (fun _ _ iv _ => l.length - (intOf iv).toNat)
    case atStart => exact ⟨0, 0, 0, Nat.zero_le _, rfl, rfl, rfl, by show _ = _; simp, by show _ = _; simp, Nat.le_refl _, Nat.le_refl _, rfl⟩
    case round =>
      obtain ⟨i, a, b, hi, rfl, rfl, rfl, ha, hb, hai, hbi, rfl⟩ := hrel
      have c3 : w1.cell? ⟨w.heap.size, 0, none⟩ = some (.int .u64 (n : Nat)) := k1.cellSome HG.out (fun h => h)
      by_cases hlt : i < l.length
      · obtain ⟨bb, o, c', hv, hc', hc1⟩ := ((H.out.keep k0).keep k1).at_ i hlt
        injection hv with hAA _ hcc
        subst hAA hcc
        have tY := filter_take (fun x => decide (x < n)) l i hlt
        have tN := filter_take (fun x => !decide (x < n)) l i hlt
        by_cases hp : l[i] < n
        · obtain ⟨hj, hx⟩ := filter_at (fun x => decide (x < n)) l i hlt (decide_eq_true hp)
          rw [if_pos (decide_eq_true hp)] at tY
          rw [if_neg (by simp; omega)] at tN
          simp only [← ha.out, ← HYl.out] at hj hx
          obtain ⟨b2, o2, c2, hv2, hc2, hcell⟩ := HY.out.at_ a hj
          injection hv2 with hAA _ hcc
          subst hAA hcc
          rw [hx] at hcell
          have hta : a + 1 = ((l.take (i + 1)).filter (fun x => decide (x < n))).length := by rw [tY, List.length_append, ← ha.out]; rfl
          have htb : b = ((l.take (i + 1)).filter (fun x => !decide (x < n))).length := by rw [tN, List.append_nil, ← hb.out]
          have HTA := Lib.hid hta
          have HTB := Lib.hid htb
          have hd : decide ((l[i] : Int) < (n : Int)) = true := by simp; omega
          have hd2 : decide ((Yl.length : Int) ≤ (a : Int)) = false := by simp; omega
          clear tY tN hta htb hx
          generalize l[i] = x at *
          go_wp2_with fail
          exact ⟨⟨i + 1, a + 1, b, by omega, by simp, by simp, rfl, HTA, HTB, by omega, by omega, trivial⟩, by simp [intOf]; omega⟩
        · obtain ⟨hj, hx⟩ := filter_at (fun x => !decide (x < n)) l i hlt (by simp; omega)
          rw [if_neg (by simp; omega)] at tY
          rw [if_pos (by simp; omega)] at tN
          simp only [← hb.out, ← HNl.out] at hj hx
          obtain ⟨b2, o2, c2, hv2, hc2, hcell⟩ := HM.out.at_ b hj
          injection hv2 with hAA _ hcc
          subst hAA hcc
          rw [hx] at hcell
          have hta : a = ((l.take (i + 1)).filter (fun x => decide (x < n))).length := by rw [tY, List.append_nil, ← ha.out]
          have htb : b + 1 = ((l.take (i + 1)).filter (fun x => !decide (x < n))).length := by rw [tN, List.length_append, ← hb.out]; rfl
          have HTA := Lib.hid hta
          have HTB := Lib.hid htb
          have hd : decide ((l[i] : Int) < (n : Int)) = false := by simp; omega
          have hd2 : decide ((Nl.length : Int) ≤ (b : Int)) = false := by simp; omega
          clear tY tN hta htb hx
          generalize l[i] = x at *
          go_wp2_with fail
          exact ⟨⟨i + 1, a, b + 1, by omega, by simp, rfl, by simp, HTA, HTB, by omega, by omega, trivial⟩, by simp [intOf]; omega⟩
      · obtain rfl : i = l.length := by omega
        have ha' := ha.out
        have hb' := hb.out
        rw [List.take_length, ← HYl.out] at ha'
        rw [List.take_length, ← HNl.out] at hb'
        have HL := Lib.hid (lives38_any w1)
        have e1 : ((a : Int) == (Yl.length : Int)) = true := beq_iff_eq.2 (by omega)
        have e2 : ((b : Int) == (Nl.length : Int)) = true := beq_iff_eq.2 (by omega)
        clear ha' hb'
        go_wp2_with fail
        refine HL.out.mono ?_
        rintro e w2 ⟨rfl, k2⟩
        go_wp2_with fail
        go_ret
        exact ⟨rfl, (k0.trans k1).trans k2⟩
end Go.Proofs.Ytimdaioojnohmaa
