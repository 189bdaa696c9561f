/-
  A map of the call's own from numbers to slices of numbers: its values read as themselves.
-/
import Derived.Test.YtimdaioojnohmaaDMem
namespace Go.Proofs.Ytimdaioojnohmaa
open Go.RowKit Go.Maps

def heldR : Value → Option (DataW Value × List MemPlace) := fun v => some (.held v, [])
theorem zero41 (w : World) : (zeroValue 41).run Try.prog w = .ok (.slice none 0 0) w := by kernel_rfl
/-- Block b is a map of at most n entries, which answers f. -/
def MapV (w : World) (b n : Nat) (f : Nat → Value) : Prop :=
  ∃ D : DataW Value, w.ownsMap Try.prog 29 heldR b n D ∧ IsMap D ∧ ∀ id, id < 18446744073709551616 → D.atKey (.int .u64 (id : Nat)) (.held (.slice none 0 0)) = .held (f id)
theorem MapV.made (w : World) : MapV (w.alloc (.map #[] 0)) w.heap.size 0 (fun _ => .slice none 0 0) := ⟨.map [], World.ownsMap_made _ _ _ _, ⟨_, rfl⟩, fun _ _ => rfl⟩
theorem MapV.block {w w' : World} {b n : Nat} {f : Nat → Value} (h : MapV w b n f) (hb : w'.heap[b]? = w.heap[b]?) : MapV w' b n f := by
  obtain ⟨D, ⟨es, clock, h0, r⟩, h1⟩ := h
  exact ⟨D, ⟨es, clock, hb.trans h0, r⟩, h1⟩
theorem MapV.at_ {w : World} {b n : Nat} {f : Nat → Value} (h : MapV w b n f) : ∃ es c, w.heap[b]? = some (.map es c) := by
  obtain ⟨D, ⟨es, clock, h0, r⟩, h1⟩ := h
  exact ⟨es, clock, h0⟩
theorem MapV.keep {S : Nat → Prop} {w w' : World} {b n : Nat} {f : Nat → Value} (h : MapV w b n f) (hk : Keep S w w') (hS : ¬ S b) : MapV w' b n f := by
  obtain ⟨es, c, hb⟩ := h.at_
  exact h.block ((hk.blk hb hS).trans hb.symm)
theorem MapV.more {w : World} {b n m : Nat} {f : Nat → Value} (h : MapV w b n f) (hm : n ≤ m) : MapV w b m f := by
  obtain ⟨D, h1, h2, h3⟩ := h
  exact ⟨D, h1.mono hm, h2, h3⟩
theorem run_lookV {w : World} {b n : Nat} {f : Nat → Value} (h : MapV w b n f) (id : Nat) (hid : id < 18446744073709551616) : (Instr.lookup 120 (.map (some b)) (.int .u64 (id : Nat)) false).run Try.prog w = .ok (f id) w := by
  obtain ⟨D, h0, -, h2⟩ := h
  obtain ⟨v, ps, hr, hv⟩ := h0.lookup key29 Try.underlying120 (zero41 w) (zd := .held (.slice none 0 0)) (zp := []) rfl (keyOf_int_mk Try.underlying29 (wf64 hid))
  rw [h2 id hid] at hv
  rw [hr]
  unfold heldR at hv
  simp only [Option.some.injEq, Prod.mk.injEq, DataW.held.injEq] at hv
  rw [hv.1]
theorem wpList_lookV (w : World) {ops : Array Oper} {rest : List Oper} {o : Oper} {a : Act} {Q : Exit → Act → World → Prop} (hg : o.guard = none) (m x : Operand) (hop : o.op = Op.lookup 120 m x false) (b n : Nat) (f : Nat → Value)
    (hm : a.eval m = .map (some b)) (hown : MapV w b n f) (id : Nat) (hid : id < 18446744073709551616) (hx : a.eval x = .int .u64 (id : Nat)) (r : Value) (hr : f id = r) (hK : wpList Try.prog ops Q rest (a.put o.dst r) w) : wpList Try.prog ops Q (o :: rest) a w := by
  refine wpList_plain hg fun K' hK' => ?_
  unfold Oper.wp
  simp [execOp, hop, hm, hx, run_lookV hown id hid, Result.andThen, hr]
  exact hK' _ _ hK
theorem wpList_keepV (w : World) {ops : Array Oper} {rest : List Oper} {o : Oper} {a : Act} {Q : Exit → Act → World → Prop} (hg : o.guard = none) (m x v : Operand) (hop : o.op = Op.mapUpdate 120 m x v) (b n : Nat) (f : Nat → Value)
    (hm : a.eval m = .map (some b)) (hown : MapV w b n f) (hn : n < maxLen) (id : Nat) (t : Value) (hid : id < 18446744073709551616) (hx : a.eval x = .int .u64 (id : Nat)) (hv : a.eval v = t)
    (hK : ∀ w', MapV w' b (n + 1) (fun j => if j = id then t else f j) → Keep (fun k => k = b) w w' → wpList Try.prog ops Q rest (a.put o.dst undef) w') : wpList Try.prog ops Q (o :: rest) a w := by
  obtain ⟨D, h0, h1, h2⟩ := hown
  refine wpList_mapUpdate_own w hg m x v 120 hop 29 41 key29 Try.underlying120 heldR b n D hm h0 hn _ _ _ hx hv (keyOf_int_mk Try.underlying29 (wf64 hid)) (.held t) [] rfl ?_
  intro w' hw' hgr
  refine hK w' ⟨_, hw', ?_, fun j hj => ?_⟩ ((Keep.refl (fun k => k = b) w).grown hgr (fun k hk _ => by injection hk with hk; exact hk.symm))
  · obtain ⟨es, rfl⟩ := h1
    exact ⟨_, rfl⟩
  · show _ = DataW.held (if j = id then t else f j)
    by_cases e : j = id
    · rw [if_pos e]
      subst e
      exact atKey_put_same h1 (key29.key (keyOf_int_mk Try.underlying29 (wf64 hj))) _ _
    · rw [if_neg e, atKey_put_other (fun h => e (by injection h with _ h; omega))]
      exact h2 j hj
end Go.Proofs.Ytimdaioojnohmaa
