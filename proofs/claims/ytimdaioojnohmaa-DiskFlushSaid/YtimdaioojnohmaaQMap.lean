/-
  A map from numbers to numbers that the call has made, as a function; a queue that may be none.
-/
import Derived.Test.YtimdaioojnohmaaQLives
import Derived.Test.YtimdaioojnohmaaOpen
import Derived.Maps.OwnOps
import Derived.Maps.Views
namespace Go.Proofs.Ytimdaioojnohmaa
open Go.RowKit Go.Maps

theorem key29 : Keyed Try.prog 29 := int_keyed Try.underlying29
theorem zero29 (w : World) : (zeroValue 29).run Try.prog w = .ok (.int .u64 0) w := by kernel_rfl
theorem wf64 {n : Nat} (h : n < 18446744073709551616) : (Lit.int .u64 n).wf = true := by
  simp [Lit.wf, IntKind.min, IntKind.max, IntKind.signed, IntKind.bits]
  omega
/-- Block b is a map of at most n entries, which answers f. -/
def MapIs (w : World) (b n : Nat) (f : Nat → Nat) : Prop :=
  ∃ D : DataW Unit, w.ownsMap Try.prog 29 (plainElem Try.prog 29) b n D ∧ IsMap D ∧ ∀ id, id < 18446744073709551616 → D.atKey (.int .u64 (id : Nat)) (.lit (.int .u64 0)) = .lit (.int .u64 (f id : Nat))
theorem MapIs.made (w : World) : MapIs (w.alloc (.map #[] 0)) w.heap.size 0 (fun _ => 0) := ⟨.map [], World.ownsMap_made _ _ _ _, ⟨_, rfl⟩, fun _ _ => rfl⟩
theorem MapIs.block {w w' : World} {b n : Nat} {f : Nat → Nat} (h : MapIs w b n f) (hb : w'.heap[b]? = w.heap[b]?) : MapIs w' b n f := by
  obtain ⟨D, ⟨es, clock, h0, r⟩, h1⟩ := h
  exact ⟨D, ⟨es, clock, hb.trans h0, r⟩, h1⟩
theorem MapIs.at_ {w : World} {b n : Nat} {f : Nat → Nat} (h : MapIs w b n f) : ∃ es c, w.heap[b]? = some (.map es c) := by
  obtain ⟨D, ⟨es, clock, h0, r⟩, h1⟩ := h
  exact ⟨es, clock, h0⟩
theorem MapIs.keepZ {w w' : World} {b n : Nat} {f : Nat → Nat} {T : Nat → Option TypeId → Prop} (h : MapIs w b n f) (hk : KeepZ T w w') (hT : ¬ T b none) : MapIs w' b n f := by
  obtain ⟨es, c, hb⟩ := h.at_
  exact h.block ((hk.blk hb hT).trans hb.symm)
theorem MapIs.no {w w' : World} {b n : Nat} {f : Nat → Nat} (h : MapIs w b n f) (hk : Keep No w w') : MapIs w' b n f := h.keepZ (T := fun _ _ => False) (KeepZ.of hk) id
theorem wpList_look (w : World) {ops : Array Oper} {rest : List Oper} {o : Oper} {a : Act} {Q : Exit → Act → World → Prop} (hg : o.guard = none) (m x : Operand) (hop : o.op = Op.lookup 91 m x false) (b n : Nat) (f : Nat → Nat)
    (hm : a.eval m = .map (some b)) (hown : MapIs w b n f) (id : Nat) (hid : id < 18446744073709551616) (hx : a.eval x = .int .u64 (id : Nat)) (hK : wpList Try.prog ops Q rest (a.put o.dst (.int .u64 (f id : Nat))) w) : wpList Try.prog ops Q (o :: rest) a w := by
  obtain ⟨D, h0, -, h2⟩ := hown
  refine wpList_lookup_own_int w hg m x 91 hop 29 29 .u64 key29 Try.underlying91 Try.underlying29 (zero29 w) b n D hm h0 _ _ hx (keyOf_int_mk Try.underlying29 (wf64 hid)) ?_
  intro c hat hwc
  rw [h2 id hid] at hat
  injection hat with hat
  injection hat with _ hat
  rw [← hat]
  exact hK
theorem wpList_keep (w : World) {ops : Array Oper} {rest : List Oper} {o : Oper} {a : Act} {Q : Exit → Act → World → Prop} (hg : o.guard = none) (m x v : Operand) (hop : o.op = Op.mapUpdate 91 m x v) (b n : Nat) (f : Nat → Nat)
    (hm : a.eval m = .map (some b)) (hown : MapIs w b n f) (hn : n < maxLen) (id t : Nat) (hid : id < 18446744073709551616) (ht : t < 18446744073709551616) (hx : a.eval x = .int .u64 (id : Nat)) (hv : a.eval v = .int .u64 (t : Nat))
    (hK : ∀ w', MapIs w' b (n + 1) (fun j => if j = id then t else f j) → KeepZ (fun k s => k = b ∧ s = none) w w' → wpList Try.prog ops Q rest (a.put o.dst undef) w') : wpList Try.prog ops Q (o :: rest) a w := by
  have hat := hown.at_
  obtain ⟨D, h0, h1, h2⟩ := hown
  refine wpList_mapUpdate_own w hg m x v 91 hop 29 29 key29 Try.underlying91 (plainElem Try.prog 29) b n D hm h0 hn _ _ _ hx hv (keyOf_int_mk Try.underlying29 (wf64 hid)) _ [] (plainElem_int Try.underlying29 (wf64 ht)) ?_
  intro w' hw' hgr
  refine hK w' ⟨_, hw', ?_, fun j hj => ?_⟩ ?_
  · obtain ⟨es, rfl⟩ := h1
    exact ⟨_, rfl⟩
  · show _ = DataW.lit (.int .u64 ((if j = id then t else f j : Nat) : Int))
    by_cases e : j = id
    · rw [if_pos e]
      subst e
      exact atKey_put_same h1 (key29.key (keyOf_int_mk Try.underlying29 (wf64 hj))) _ _
    · rw [if_neg e, atKey_put_other (fun h => e (by injection h with _ h; omega))]
      exact h2 j hj
  · obtain ⟨es, c, hb⟩ := hat
    exact Keep.mono ((Keep.refl (fun k => k = b) w).grown hgr (fun k hk _ => by injection hk with hk; exact hk.symm)) (fun i _ hi => by obtain rfl : i = b := hi; exact ⟨_, hb, rfl, rfl⟩)

/-- The program's queue p, which may be none. -/
def PQ (B : Nat) (w : World) (p : Value) (pat : Nat) (q : QL) : Prop := (p = .pointer none ∧ q = []) ∨ ∃ g most, p = .pointer (some ⟨g, 0, none⟩) ∧ QAt B w g most pat q ∧ 0 < most
section
variable {B pat : Nat} {w w' : World} {p : Value} {q : QL}
theorem PQ.keep {T : Nat → Option TypeId → Prop} (h : PQ B w p pat q) (hk : KeepZ T w w') (hT : ∀ k, ¬ T k (some 116) ∧ ¬ T k (some 160)) : PQ B w' p pat q := by
  rcases h with h | ⟨g, most, rfl, h, h0⟩
  · exact .inl h
  · exact .inr ⟨g, most, rfl, h.keep hk hT, h0⟩
theorem PQ.no (h : PQ B w p pat q) (hk : Keep No w w') : PQ B w' p pat q := h.keep (T := fun _ _ => False) (KeepZ.of hk) (fun _ => ⟨id, id⟩)
theorem pnew (a : Int) (n : Nat) (w : World) (ha : -9223372036854775808 ≤ a ∧ a ≤ 9223372036854775807) (hn : n < 18446744073709551616) : Calls Try.prog 41 #[.int .i64 a, .int .u64 n] w fun e w' => ∃ p, e = .returned p ∧ PQ w.heap.size w' p n [] ∧ Keep No w w' := by
  by_cases hbad : a < 1 ∨ 64 < a ∨ n = 0
  · exact (qnew_bad a n w hbad ha.1 ha.2).mono fun _ _ ⟨he, hw⟩ => ⟨_, he, .inl ⟨rfl, rfl⟩, hw ▸ Keep.refl _ _⟩
  · obtain ⟨most, rfl⟩ := Int.eq_ofNat_of_zero_le (show 0 ≤ a by omega)
    exact (qnew_any most n w (by omega) (by omega) (by omega) hn).mono fun _ _ ⟨he, hq, hw⟩ => ⟨_, he, .inr ⟨_, most, rfl, hq, by omega⟩, by rw [hw]; exact (Keep.refl _ _).alloc _⟩
theorem plate (now : Nat) (h : PQ B w p pat q) (hBw : B ≤ w.heap.size) (hnow : now < 18446744073709551616) (hQB : QB q) : Calls Try.prog 42 #[p, .int .u64 now] w fun e w' => ∃ r, e = .returned r ∧ N64 w' r (qlate pat q now).1 ∧ PQ B w' p pat (qlate pat q now).2 ∧ KeepZ (TQ B) w w' := by
  rcases h with ⟨rfl, rfl⟩ | ⟨g, most, rfl, h, h0⟩
  · exact (qlate_nobody w _ now (.inl rfl)).mono fun _ _ ⟨he, hk⟩ => ⟨_, he, Sl.nil _, .inl ⟨rfl, rfl⟩, KeepZ.of hk⟩
  · exact (qlate_any B g most pat now q w h h0 hBw hnow hQB).mono fun _ _ ⟨r, he, hr, hq, hk⟩ => ⟨r, he, hr.n64, .inr ⟨g, most, rfl, hq, h0⟩, hk⟩
theorem pall (h : PQ B w p pat q) : Calls Try.prog 43 #[p] w fun e w' => ∃ r, e = .returned r ∧ N64 w' r (q.map (·.1)) ∧ Keep No w w' := by
  rcases h with ⟨rfl, rfl⟩ | ⟨g, most, rfl, h, h0⟩
  · exact (qall_nil w).mono fun _ _ ⟨he, hw⟩ => ⟨_, he, Sl.nil _, hw ▸ Keep.refl _ _⟩
  · exact (qall_any B g most pat q w h).mono fun _ _ ⟨r, he, hr, hk⟩ => ⟨r, he, hr.n64, hk⟩
theorem pput (id now : Nat) (h : PQ B w p pat q) (hBw : B ≤ w.heap.size) : Calls Try.prog 44 #[p, .int .u64 id, .int .u64 now] w fun e w' => ∃ (c : Nat) (q' : QL), e = .returned (.int .i64 (c : Nat)) ∧ PQ B w' p pat q' ∧ KeepZ (TQ B) w w' ∧
    ((c = 0 ∧ q' = q ++ [(id, now)] ∧ qhas q id = false) ∨ (c ≠ 0 ∧ q' = q)) := by
  rcases h with ⟨rfl, rfl⟩ | ⟨g, most, rfl, h, h0⟩
  · exact (qput_nobody w _ id now (.inl rfl)).mono fun _ _ ⟨he, hw⟩ => ⟨1, [], he, .inl ⟨rfl, rfl⟩, hw ▸ KeepZ.refl _ _, .inr ⟨by decide, rfl⟩⟩
  · refine (qput_any B g most pat id now q w h h0 hBw).mono fun _ _ ⟨he, hq, hk⟩ => ⟨_, _, he, .inr ⟨g, most, rfl, hq, h0⟩, hk, ?_⟩
    unfold qput
    by_cases e1 : qhas q id = true
    · rw [if_pos e1]; exact .inr ⟨Nat.succ_ne_zero _, rfl⟩
    · rw [if_neg e1]
      by_cases e2 : most ≤ q.length
      · rw [if_pos e2]; exact .inr ⟨Nat.succ_ne_zero _, rfl⟩
      · rw [if_neg e2]; exact .inl ⟨rfl, rfl, by simpa using e1⟩
end
end Go.Proofs.Ytimdaioojnohmaa
