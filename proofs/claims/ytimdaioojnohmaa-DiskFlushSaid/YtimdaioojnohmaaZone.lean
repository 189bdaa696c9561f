/-
  What a call may write, told by the numbers and the element types of blocks.
-/
import Derived.Test.YtimdaioojnohmaaMem
namespace Go.Proofs.Ytimdaioojnohmaa
open Go.RowKit

/-- The element type of a row; none: no row (a map). -/
def sig : Obj → Option TypeId
  | .cells _ t _ => some t
  | _ => none
def Zone (T : Nat → Option TypeId → Prop) (w : World) (k : Nat) : Prop := ∃ o, w.heap[k]? = some o ∧ T k (sig o)
/-- All that was there is as it was, but for blocks of which T says so. -/
def KeepZ (T : Nat → Option TypeId → Prop) (w w' : World) : Prop := Keep (Zone T w) w w'

section
variable {T U : Nat → Option TypeId → Prop} {a b c : World}
theorem KeepZ.refl (T : Nat → Option TypeId → Prop) (w : World) : KeepZ T w w := Keep.refl _ _
theorem KeepZ.of (h : Keep No a b) : KeepZ T a b := h.no
theorem KeepZ.trans (h : KeepZ T a b) (k : KeepZ T b c) : KeepZ T a c :=
  ⟨k.os.trans h.os, k.tape.trans h.tape, k.output.trans h.output, Nat.le_trans h.size k.size, fun i hi hn => by
    have e := h.block i hi hn
    rw [← e]
    refine k.block i (Nat.lt_of_lt_of_le hi h.size) (fun ⟨o, ho, hT⟩ => hn ⟨o, ?_, hT⟩)
    rw [← e]; exact ho⟩
theorem KeepZ.mono (h : KeepZ T a b) (hT : ∀ k s, T k s → U k s) : KeepZ U a b := Keep.mono h (fun _ _ ⟨o, ho, ht⟩ => ⟨o, ho, hT _ _ ht⟩)
theorem KeepZ.then (h : KeepZ T a b) (k : Keep No b c) : KeepZ T a c := h.trans (KeepZ.of k)
theorem KeepZ.drew (h : KeepZ T a b) : KeepZ T a b.drew := Keep.drew h
theorem KeepZ.drewN (h : KeepZ T a b) (n : Nat) : KeepZ T a (b.drewN n) := Keep.drewN h n
theorem KeepZ.alloc (h : KeepZ T a b) (o : Obj) : KeepZ T a (b.alloc o) := Keep.alloc h o
theorem KeepZ.setCell (h : KeepZ T a b) {p : Addr} {o : Obj} (ho : b.heap[p.block]? = some o) (hT : T p.block (sig o)) (u : Value) : KeepZ T a (b.setCell p u) :=
  h.trans ((Keep.refl (Zone T b) b).setCell (fun _ => ⟨o, ho, hT⟩) u)
theorem KeepZ.own (h : KeepZ T a b) {e : TypeId} {size : Nat} {v : Value} {n : Nat} {xs : List Value} (ho : b.ownsRow 0 e size v n xs) (k : Keep (Own v) b c) (hT : ∀ i, v.ownBlock = some i → T i (some e)) : KeepZ T a c :=
  h.trans (Keep.mono k (fun i _ hi => by obtain ⟨cur, hcur⟩ := own_blk ho hi; exact ⟨_, hcur, hT i hi⟩))
theorem KeepZ.blk (h : KeepZ T a b) {g : Nat} {o : Obj} (hg : a.heap[g]? = some o) (hn : ¬ T g (sig o)) : b.heap[g]? = some o :=
  Keep.blk h hg (fun ⟨o', ho', ht⟩ => hn (by rw [hg] at ho'; injection ho' with e; rw [e]; exact ht))
theorem KeepZ.row (h : KeepZ T a b) {base : Nat} {e : TypeId} {size : Nat} {v : Value} {n : Nat} {xs : List Value} (ho : a.ownsRow base e size v n xs) (hn : ∀ i, v.ownBlock = some i → ¬ T i (some e)) : b.ownsRow base e size v n xs :=
  own_keep ho h (fun k hk ⟨o, hb, ht⟩ => by
    obtain ⟨cur, hcur⟩ := own_blk ho hk
    rw [hcur] at hb
    injection hb with hb
    subst hb
    exact hn k hk ht)
theorem KeepZ.sl (h : KeepZ T a b) {v : Value} {m : Nat} {cs : List Value} (hs : Sl a v m cs) (hn : ∀ i o, v.ownBlock = some i → a.heap[i]? = some o → ¬ T i (sig o)) : Sl b v m cs :=
  hs.keep h (fun k hk ⟨o, ho, ht⟩ => hn k o hk ho ht)
theorem KeepZ.no (h : KeepZ T a b) (hT : ∀ k s, T k s → a.heap.size ≤ k) : Keep No a b :=
  Keep.mono h (fun i hi ⟨o, _, ht⟩ => absurd (hT i _ ht) (by omega))
theorem KeepZ.cellSome (h : KeepZ T a b) {p : Addr} {v : Value} (hv : a.cell? p = some v) (hn : ∀ o, a.heap[p.block]? = some o → ¬ T p.block (sig o)) : b.cell? p = some v :=
  Keep.cellSome h hv (fun ⟨o, ho, ht⟩ => hn o ho ht)
end
end Go.Proofs.Ytimdaioojnohmaa
