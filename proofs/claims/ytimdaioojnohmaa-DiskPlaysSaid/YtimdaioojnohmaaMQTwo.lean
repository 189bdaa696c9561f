/-
  The program's queue and the document's, side by side.
-/
import Derived.Test.YtimdaioojnohmaaMRLate
import Derived.Test.YtimdaioojnohmaaMLaw
import Derived.Deep.RegionHeld3
namespace Go.Proofs.Ytimdaioojnohmaa
open Go.RowKit

def TQR (B : Nat) : Nat → Option TypeId → Prop := fun k s => B ≤ k ∧ (s = some 116 ∨ s = some 160 ∨ s = some 109 ∨ s = some 111)
theorem TQ.to {B : Nat} : ∀ k s, TQ B k s → TQR B k s := fun k s ⟨h, e⟩ => ⟨h, by rcases e with e | e <;> simp [e]⟩
theorem TR.to {B : Nat} : ∀ k s, TR B k s → TQR B k s := fun k s ⟨h, e⟩ => ⟨h, by rcases e with e | e <;> simp [e]⟩
theorem QAt.overR {B : Nat} {w w' : World} {g most pat : Nat} {l : QL} (h : QAt B w g most pat l) (hk : KeepZ (TR B) w w') : QAt B w' g most pat l :=
  h.keep hk (fun k => ⟨fun ⟨_, e⟩ => by rcases e with e | e <;> simp at e, fun ⟨_, e⟩ => by rcases e with e | e <;> simp at e⟩)
theorem RAt.overQ {B : Nat} {w w' : World} {g most pat : Nat} {l : QL} (h : RAt B w g most pat l) (hk : KeepZ (TQ B) w w') : RAt B w' g most pat l :=
  h.keep hk (fun k => ⟨fun ⟨_, e⟩ => by rcases e with e | e <;> simp at e, fun ⟨_, e⟩ => by rcases e with e | e <;> simp at e⟩)
theorem RAt.base {B B' : Nat} {w : World} {g most pat : Nat} {l : QL} (h : RAt B w g most pat l) (hB : B' ≤ B) : RAt B' w g most pat l := by
  obtain ⟨A, k, hb, ho, hg, hA, r⟩ := h
  exact ⟨A, k, hb, ho, Nat.le_trans hB hg, fun b h => Nat.le_trans hB (hA b h), r⟩
theorem new_keepZ {B : Nat} {w0 w w' : World} {r : Value} {l : List Nat} (h : New64 w0 w r l) (hk : KeepZ (TQR B) w w') : New64 w0 w' r l := by
  obtain ⟨A, k, rfl, ho, hA⟩ := h
  exact ⟨A, k, rfl, hk.row ho (fun i _ ⟨_, e⟩ => by rcases e with e | e | e | e <;> simp at e), hA⟩

/-- Both hold these; the act stands in block p; nothing else is changed since w. -/
structure Two (w : World) (g r most pat p : Nat) (op : OpL) (lq lr : QL) (W : World) : Prop where
  q : QAt w.heap.size W g most pat lq
  r : RAt w.heap.size W r most pat lr
  k : KeepZ (TQR w.heap.size) w W
  o : W.heap[p]? = some (.cells #[.int .i64 op.1, .int .u64 op.2.1, .int .u64 op.2.2] 93 (0, 0))
section
variable {w W W' : World} {g r most pat p : Nat} {op : OpL} {lq lr : QL}
theorem Two.stepQ (h : Two w g r most pat p op lq lr W) {l' : QL} (hq : QAt w.heap.size W' g most pat l') (hk : KeepZ (TQ w.heap.size) W W') : Two w g r most pat p op l' lr W' :=
  ⟨hq, h.r.overQ hk, h.k.trans (hk.mono TQ.to), hk.blk h.o (fun ⟨_, e⟩ => by rcases e with e | e <;> simp [sig] at e)⟩
theorem Two.stepR (h : Two w g r most pat p op lq lr W) {l' : QL} (hr : RAt w.heap.size W' r most pat l') (hk : KeepZ (TR w.heap.size) W W') : Two w g r most pat p op lq l' W' :=
  ⟨h.q.overR hk, hr, h.k.trans (hk.mono TR.to), hk.blk h.o (fun ⟨_, e⟩ => by rcases e with e | e <;> simp [sig] at e)⟩
theorem Two.no (h : Two w g r most pat p op lq lr W) (hk : Keep No W W') : Two w g r most pat p op lq lr W' := ⟨h.q.no hk, h.r.no hk, h.k.then hk, hk.blk h.o (fun h => h)⟩
theorem Two.drew (h : Two w g r most pat p op lq lr W) : Two w g r most pat p op lq lr W.drew := h.no (Keep.refl _ _).drew
theorem Two.c0 (h : Two w g r most pat p op lq lr W) : W.cell? ⟨p, 0, none⟩ = some (.int .i64 op.1) := (blk_cell h.o 0).trans rfl
theorem Two.c1 (h : Two w g r most pat p op lq lr W) : W.cell? ⟨p, 1, none⟩ = some (.int .u64 op.2.1) := (blk_cell h.o 1).trans rfl
theorem Two.c2 (h : Two w g r most pat p op lq lr W) : W.cell? ⟨p, 2, none⟩ = some (.int .u64 op.2.2) := (blk_cell h.o 2).trans rfl
end
section
variable {w : World} {g r most pat p : Nat} {op : OpL} (h0 : 0 < most)
include h0
theorem two_put (lq lr : QL) (W : World) (h : Two w g r most pat p op lq lr W) : Calls Try.prog 44 #[.pointer (some ⟨g, 0, none⟩), .int .u64 op.2.1, .int .u64 op.2.2] W fun e W' =>
    e = .returned (.int .i64 ((qput most lq op.2.1 op.2.2).1 : Nat)) ∧ Two w g r most pat p op (qput most lq op.2.1 op.2.2).2 lr W' :=
  (qput_any _ g most pat op.2.1 op.2.2 lq W h.q h0 h.k.size).mono fun _ _ ⟨he, hq, hk⟩ => ⟨he, h.stepQ hq hk⟩
theorem two_done (lq lr : QL) (W : World) (h : Two w g r most pat p op lq lr W) : Calls Try.prog 49 #[.pointer (some ⟨g, 0, none⟩), .int .u64 op.2.1] W fun e W' =>
    e = .returned (.int .i64 ((qdone lq op.2.1).1 : Nat)) ∧ Two w g r most pat p op (qdone lq op.2.1).2 lr W' :=
  (qdone_any _ g most pat op.2.1 lq W h.q h0 h.k.size).mono fun _ _ ⟨he, hq, hk⟩ => ⟨he, h.stepQ hq hk⟩
theorem two_late (lq lr : QL) (W : World) (h : Two w g r most pat p op lq lr W) (hn : op.2.2 < 18446744073709551616) (hb : QB lq) : Calls Try.prog 42 #[.pointer (some ⟨g, 0, none⟩), .int .u64 op.2.2] W fun e W' =>
    ∃ x, e = .returned x ∧ New64 w W' x (qlate pat lq op.2.2).1 ∧ Two w g r most pat p op (qlate pat lq op.2.2).2 lr W' ∧ KeepZ (TQR w.heap.size) W W' :=
  (qlate_any _ g most pat op.2.2 lq W h.q h0 h.k.size hn hb).mono fun _ _ ⟨x, he, hx, hq, hk⟩ => ⟨x, he, hx.since h.k.size, h.stepQ hq hk, hk.mono TQ.to⟩
end
section
variable {w : World} {g r most pat p : Nat} {op : OpL}
theorem two_rput (lq lr : QL) (W : World) (h : Two w g r most pat p op lq lr W) : Calls Try.prog 48 #[.pointer (some ⟨r, 0, none⟩), .int .u64 op.2.1, .int .u64 op.2.2] W fun e W' =>
    e = .returned (.int .i64 ((qput most lr op.2.1 op.2.2).1 : Nat)) ∧ Two w g r most pat p op lq (qput most lr op.2.1 op.2.2).2 W' :=
  (rput_any _ r most pat op.2.1 op.2.2 lr W h.r h.k.size).mono fun _ _ ⟨he, hq, hk⟩ => ⟨he, h.stepR hq hk⟩
theorem two_rdone (lq lr : QL) (W : World) (h : Two w g r most pat p op lq lr W) : Calls Try.prog 50 #[.pointer (some ⟨r, 0, none⟩), .int .u64 op.2.1] W fun e W' =>
    e = .returned (.int .i64 ((qdone lr op.2.1).1 : Nat)) ∧ Two w g r most pat p op lq (qdone lr op.2.1).2 W' :=
  (rdone_any _ r most pat op.2.1 lr W h.r h.k.size).mono fun _ _ ⟨he, hq, hk⟩ => ⟨he, h.stepR hq hk⟩
theorem two_rlate (lq lr : QL) (W : World) (h : Two w g r most pat p op lq lr W) (hn : op.2.2 < 18446744073709551616) : Calls Try.prog 52 #[.pointer (some ⟨r, 0, none⟩), .int .u64 op.2.2] W fun e W' =>
    ∃ x, e = .returned x ∧ New64 w W' x (qlate pat lr op.2.2).1 ∧ Two w g r most pat p op lq (qlate pat lr op.2.2).2 W' ∧ KeepZ (TQR w.heap.size) W W' :=
  (rlate_any _ r most pat op.2.2 lr W h.r h.k.size hn).mono fun _ _ ⟨x, he, hx, hq, hk⟩ => ⟨x, he, hx.since h.k.size, h.stepR hq hk, hk.mono TR.to⟩
end
theorem ints_same (v u : Value) (l : List Nat) (w : World) (h : N64 w v l) (h2 : N64 w u l) (hl : l.length ≤ 4503599627370496) : Calls Try.prog 51 #[v, u] w fun e w' => e = .returned (.bool true) ∧ ∃ n, w' = w.drewN n :=
  (ints_any v u l l w h h2 hl hl).mono fun _ _ ⟨he, hn⟩ => ⟨by rw [he, decide_eq_true rfl], hn⟩

theorem QB.put {most : Nat} {l : QL} {id now : Nat} (h : QB l) (h1 : id < 18446744073709551616) (h2 : now < 18446744073709551616) : QB (qput most l id now).2 := by
  unfold qput
  split
  · exact h
  · split
    · exact h
    · intro x hx
      rcases List.mem_append.1 hx with hx | hx
      · exact h x hx
      · obtain rfl := List.mem_singleton.1 hx
        exact ⟨h1, h2⟩
theorem QB.filter {l : QL} (h : QB l) (p : Nat × Nat → Bool) : QB (l.filter p) := fun x hx => h x (List.mem_filter.1 hx).1
theorem QB.done {l : QL} {id : Nat} (h : QB l) : QB (qdone l id).2 := by
  unfold qdone
  split
  · exact h.filter _
  · exact h
end Go.Proofs.Ytimdaioojnohmaa
