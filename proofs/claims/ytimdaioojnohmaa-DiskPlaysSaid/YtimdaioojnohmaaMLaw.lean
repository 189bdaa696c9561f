/-
  The last step of each law's row: true is handed back, and all that was there is as it was.
  What stands in a law's arguments: a slice of numbers; a slice of the laws' acts.
-/
import Derived.Test.YtimdaioojnohmaaRows
import Derived.Test.YtimdaioojnohmaaMBase
import Derived.Test.YtimdaioojnohmaaMFloat
import Derived.ProofKit
import Derived.OpenShut
import Derived.Lib.SmallJoins
namespace Go.Proofs.Ytimdaioojnohmaa
open Go.ChangeShapes Go.WideShapes Go.ChangeAt Go.RowKit

theorem Try.own : ownKnob Try.prog.godebug = none := by kernel_rfl
theorem Try.laidOut : laidOutB Try.prog = true := by kernel_rfl

section
variable {H : Type} {enc : TypeId × Value → H} {P : Program}
theorem trodAll_below {W W' : World} (hl : laidOutB P = true) (hb : Below W.heap.size W W') : ∀ (ts : List TypeId) (vs : List Value) (ds : List (DataW H)) (ps : List MemPlace),
    (∀ t ∈ ts, P.readableRec t = true ∧ t < P.types.size) → DataW.TrodAll enc P W 0 (fun _ => true) true ts vs ds ps → (∀ x ∈ ps, x.block < W.heap.size) →
    DataW.TrodAll enc P W' 0 (fun b => decide (b < W.heap.size)) true ts vs ds ps := by
  intro ts
  induction ts with
  | nil =>
    intro vs ds ps _ h _
    obtain ⟨rfl, rfl, rfl⟩ := trodAll_nil h
    exact trodAll_mk0
  | cons t ts ih =>
    intro vs ds ps hr h hlt
    obtain ⟨v, vs, d, ds, p, q, rfl, rfl, rfl, h0, h1⟩ := trodAll_cons h
    have := hr t (by simp)
    exact trodAll_cons_mk (Below.trod hl this.1 this.2 h0 hb (fun x hx => hlt x (by simp [hx]))) (ih vs ds q (fun t ht => hr t (by simp [ht])) h1 (fun x hx => hlt x (by simp [hx])))

theorem law_post {f : Func} {s : ChangeSpec} {W W' : World} {args : Array Value} {ds : List (DataW H)} {before : List MemPlace} (hl : laidOutB P = true) (h4 : P.underlying 4 = some .bool)
    (hv : s.vars = []) (hf : f.resultTypes = #[4]) (hr : ∀ t ∈ f.params.toList, P.readableRec t = true ∧ t < P.types.size)
    (hW : DataW.Whole enc P f.params.toList s.vars false W args.toList ds [] before) (hs : s.fn H (ds ++ []) = { results := [.lit (.bool true)], args := ds }) (hk : Keep No W W') :
    s.post enc P f false true false false W args (.bool true) W' := by
  have hlt : ∀ p ∈ before, p.block < W.heap.size := fun p hp => hW.lt p hp
  have hW2 := hW
  obtain ⟨p, q, hA, hV, rfl, hz, hn⟩ := hW
  rw [hv] at hV
  obtain ⟨_, rfl⟩ := trodVars_none hV
  refine ⟨ds, [], p ++ [], [], p, [], hW2, ?_, ?_, ?_, ?_, fun h => by cases h⟩
  · rw [hs, hf]
    exact trodAll_cons_mk (shut_bool h4 true) trodAll_mk0
  · rw [hs]
    exact trodAll_below hl hk.below _ _ _ _ hr hA (fun x hx => hlt x (by simp [hx]))
  · rw [hs, hv]
    exact hV
  · exact hk.below.frame _
end
end Go.Proofs.Ytimdaioojnohmaa

namespace Go.Proofs.Ytimdaioojnohmaa
open Go.ChangeShapes Go.WideShapes Go.ChangeAt Go.RowKit Go.Deep Go.Joins

/-- A slice of n elements whose cells, where it has some, are cs. -/
def Rd (w : World) (v : Value) (n : Nat) (cs : List Value) : Prop :=
  ∃ A c, v = .slice A n c ∧ n ≤ c ∧ ∀ j u, cs[j]? = some u → ∃ b o, A = some ⟨b, o, none⟩ ∧ w.cell? ⟨b, o + j, none⟩ = some u
theorem Rd.keep {w w' : World} {v : Value} {n : Nat} {cs : List Value} (h : Rd w v n cs) (hk : Keep No w w') : Rd w' v n cs := by
  obtain ⟨A, c, rfl, hc, hx⟩ := h
  refine ⟨A, c, rfl, hc, fun j u hj => ?_⟩
  obtain ⟨b, o, rfl, h⟩ := hx j u hj
  exact ⟨b, o, rfl, hk.cellSome h (fun h => h)⟩
theorem Rd.of {w : World} {v : Value} {n : Nat} {cs : List Value} (h : Sl w v n cs) : Rd w v n cs := by
  rcases h with ⟨rfl, rfl, rfl⟩ | ⟨b, o, c, rfl, hc, hx⟩
  · exact ⟨none, 0, rfl, Nat.le_refl _, fun j u hj => by simp at hj⟩
  · exact ⟨_, c, rfl, hc, fun j u hj => ⟨b, o, rfl, hx j u hj⟩⟩

theorem addr_plain {w : World} {base : Nat} {a : Addr} {m : Nat} {cs : List Value} (h : w.cells? base (a.add 0) m = some cs) (hm : 0 < m) : ∃ b o, a = ⟨b, o, none⟩ := by
  obtain ⟨_, hl, hx⟩ := World.cells?_some h
  have e := hx 0 hm
  obtain ⟨b, o, s⟩ := a
  cases s with
  | none => exact ⟨b, o, rfl⟩
  | some s =>
    exfalso
    have hc : cs[0]? = some (cs[0]'(by omega)) := List.getElem?_eq_getElem (by omega)
    rw [hc] at e
    revert e
    simp only [Addr.add, World.cell?]
    simp
    split <;> simp
theorem cells_add {w : World} {base b o k m : Nat} {cs : List Value} (h : w.cells? base ((⟨b, o, none⟩ : Addr).add k) m = some cs) (j : Nat) (u : Value) (hj : cs[j]? = some u) : w.cell? ⟨b, o + (k + j), none⟩ = some u := by
  obtain ⟨_, hl, hx⟩ := World.cells?_some h
  have hjm : j < m := by rw [← hl]; exact (List.getElem?_eq_some_iff.1 hj).1
  have e := (hx j hjm).trans hj
  rw [Addr.add_at, Addr.add_at, Nat.add_assoc] at e
  exact e

section
variable {H : Type} {enc : TypeId × Value → H} {P : Program} {w : World} {base b0 : Nat} {sp : Nat → Bool} {held : Bool}
/-- A slice opened by a reading of its elements. -/
theorem open_rows {α : Type} [Inhabited α] {t e : TypeId} {m : Nat} (f : α → List Value) (ok : α → Prop) (ht : P.underlying t = some (.slice e)) (hc : P.cellsOf e = m)
    (hel : ∀ (fuel : Nat) (cs : List Value) (x : DataW H × List MemPlace), cs.length = m → DataW.trod enc P w base sp held fuel e cs = some x → ∃ a, cs = f a ∧ ok a) (hf : ∀ a, (f a).length = m)
    {v : Value} {d : DataW H} {p : List MemPlace} (hv : Value.okWide P w .any b0 t v) (h : DataW.Trod enc P w base sp held t v d p) : ∃ l : List α, Rd w v l.length (l.flatMap f) ∧ (∀ a ∈ l, ok a) ∧ l.length ≤ maxLen := by
  obtain ⟨A, n, c, rfl⟩ := okWide_slice ht hv
  obtain ⟨fuel, h⟩ := h
  rcases open_slice ht h with ⟨hcs, _⟩ | ⟨a, len, cap, mm, k, D, Pl, hcs, _, hl, hm, hmm, _, hx⟩
  · simp [Value.cells] at hcs
    obtain ⟨rfl, rfl, rfl⟩ := hcs
    exact ⟨[], ⟨none, 0, rfl, Nat.le_refl _, fun j u hj => by simp at hj⟩, by simp, Nat.zero_le _⟩
  · simp [Value.cells] at hcs
    obtain ⟨rfl, rfl, rfl⟩ := hcs
    have hle : n ≤ mm := by rw [hmm]; split <;> omega
    obtain ⟨g, hg⟩ := choose_lt (n := n) (p := fun i x => ok x ∧ w.cells? base (a.add (i * m)) m = some (f x)) (fun i hi => by
      obtain ⟨cs', h1, h2⟩ := hx i (by omega)
      rw [hc] at h1
      obtain ⟨y, rfl, hy⟩ := hel _ _ _ (World.cells?_some h1).2.1 h2
      exact ⟨y, hy, h1⟩)
    refine ⟨(List.range n).map g, ?_, ?_, by simp; omega⟩
    · refine ⟨some a, c, by simp, by simpa using hl, fun j u hj => ?_⟩
      have hpos : 0 < m := by
        rcases Nat.eq_zero_or_pos m with rfl | h
        · have h0 := flat_len f 0 hf ((List.range n).map g)
          have := (List.getElem?_eq_some_iff.1 hj).1
          omega
        · exact h
      have hjl : j < ((List.range n).map g |>.flatMap f).length := (List.getElem?_eq_some_iff.1 hj).1
      rw [flat_len f m hf] at hjl
      simp at hjl
      have hj' : j / m < n := (Nat.div_lt_iff_lt_mul hpos).2 hjl
      have hsplit : j = j / m * m + j % m := by have := Nat.div_add_mod j m; rw [Nat.mul_comm] at this; exact this.symm
      rw [hsplit, flat_get f m hf _ (j / m) (j % m) (by simpa using hj') (Nat.mod_lt _ hpos)] at hj
      simp only [List.getElem_map, List.getElem_range] at hj
      obtain ⟨b, o, rfl⟩ := addr_plain (by have := (hg 0 (Nat.lt_of_le_of_lt (Nat.zero_le _) hj')).2; rw [Nat.zero_mul] at this; exact this) hpos
      exact ⟨b, o, rfl, by rw [hsplit]; exact cells_add (hg (j / m) hj').2 _ _ hj⟩
    · intro x hx'
      obtain ⟨i, hi, rfl⟩ := List.mem_map.1 hx'
      exact (hg i (List.mem_range.1 hi)).1
end
/-- An act of the laws: what, and two numbers. -/
abbrev OpL := Int × Nat × Nat
def opcells (x : OpL) : List Value := [.int .i64 x.1, .int .u64 x.2.1, .int .u64 x.2.2]
def OpOk (x : OpL) : Prop := -9223372036854775808 ≤ x.1 ∧ x.1 ≤ 9223372036854775807 ∧ x.2.1 < 18446744073709551616 ∧ x.2.2 < 18446744073709551616
theorem wf_u64 {n : Int} (h : (Lit.int .u64 n).wf = true) : ∃ k : Nat, n = k ∧ k < 18446744073709551616 := by
  have b : 0 ≤ n ∧ n ≤ 18446744073709551615 := by simpa [Lit.wf, IntKind.min, IntKind.max, IntKind.signed, IntKind.bits] using h
  obtain ⟨k, rfl⟩ := Int.eq_ofNat_of_zero_le b.1
  exact ⟨k, rfl, by omega⟩
theorem wf_u32 {n : Int} (h : (Lit.int .u32 n).wf = true) : ∃ k : Nat, n = k ∧ k < 4294967296 := by
  have b : 0 ≤ n ∧ n ≤ 4294967295 := by simpa [Lit.wf, IntKind.min, IntKind.max, IntKind.signed, IntKind.bits] using h
  obtain ⟨k, rfl⟩ := Int.eq_ofNat_of_zero_le b.1
  exact ⟨k, rfl, by omega⟩
theorem wf_i64 {n : Int} (h : (Lit.int .i64 n).wf = true) : -9223372036854775808 ≤ n ∧ n ≤ 9223372036854775807 := by
  simpa [Lit.wf, IntKind.min, IntKind.max, IntKind.signed, IntKind.bits] using h
theorem opcells_len (x : OpL) : (opcells x).length = 3 := rfl
section
variable {H : Type} {enc : TypeId × Value → H} {w : World} {base b0 : Nat} {sp : Nat → Bool} {held : Bool}
set_option maxRecDepth 100000 in
theorem open_nums {v : Value} {d : DataW H} {p : List MemPlace} (hv : Value.okWide Try.prog w .any b0 41 v) (h : DataW.Trod enc Try.prog w base sp held 41 v d p) :
    ∃ l : List Nat, Rd w v l.length (l.map (fun x => Value.int .u64 (x : Nat))) ∧ (∀ a ∈ l, a < 18446744073709551616) ∧ l.length ≤ maxLen := by
  obtain ⟨l, h1, h2, h3⟩ := open_rows (fun x : Nat => [Value.int .u64 (x : Nat)]) (fun x => x < 18446744073709551616) Try.underlying41 (show Try.prog.cellsOf 29 = 1 by kernel_rfl) (fun fuel cs x hl hx => by
    obtain ⟨n, rfl, -, hw⟩ := DataW.trod_int Try.underlying29 hx
    obtain ⟨k, rfl, hk⟩ := wf_u64 hw
    exact ⟨k, rfl, hk⟩) (fun _ => rfl) hv h
  refine ⟨l, ?_, h2, h3⟩
  rw [show l.map (fun x => Value.int .u64 (x : Nat)) = l.flatMap (fun x : Nat => [Value.int .u64 (x : Nat)]) from List.map_eq_flatMap ..]
  exact h1
set_option maxRecDepth 100000 in
theorem open_ops {v : Value} {d : DataW H} {p : List MemPlace} (hv : Value.okWide Try.prog w .any b0 89 v) (h : DataW.Trod enc Try.prog w base sp held 89 v d p) :
    ∃ l : List OpL, Rd w v l.length (l.flatMap opcells) ∧ (∀ a ∈ l, OpOk a) ∧ l.length ≤ maxLen := by
  refine open_rows opcells OpOk Try.underlying89 (show Try.prog.cellsOf 93 = 3 by kernel_rfl) (fun fuel cs x hl hx => ?_) opcells_len hv h
  obtain ⟨xs, n, _, _, _, hlen, hf⟩ := DataW.trod_struct Try.underlying93 hx
  match cs, hl with
  | [c0, c1, c2], _ =>
    have hone : oneCellFields Try.prog #[⟨"Kind", 3, 0, false, "", "", 0⟩, ⟨"ID", 29, 1, false, "", "", 8⟩, ⟨"Now", 29, 2, false, "", "", 16⟩] = true := by kernel_rfl
    obtain ⟨o0, k0⟩ := hone_of hone 0 _ rfl
    obtain ⟨o1, k1⟩ := hone_of hone 1 _ rfl
    obtain ⟨o2, k2⟩ := hone_of hone 2 _ rfl
    have l3 : xs.length = 3 := hlen
    have g0 := hf 0 _ rfl
    have g1 := hf 1 _ rfl
    have g2 := hf 2 _ rfl
    rw [List.getElem?_eq_getElem (show 0 < xs.length by omega)] at g0
    rw [List.getElem?_eq_getElem (show 1 < xs.length by omega)] at g1
    rw [List.getElem?_eq_getElem (show 2 < xs.length by omega)] at g2
    simp only [k0, k1, k2] at g0 g1 g2
    obtain ⟨n0, e0, -, hw0⟩ := DataW.trod_int Try.underlying3 g0
    obtain ⟨n1, e1, -, hw1⟩ := DataW.trod_int Try.underlying29 g1
    obtain ⟨n2, e2, -, hw2⟩ := DataW.trod_int Try.underlying29 g2
    obtain ⟨m1, rfl, b1⟩ := wf_u64 hw1
    obtain ⟨m2, rfl, b2⟩ := wf_u64 hw2
    simp at e0 e1 e2
    subst e0 e1 e2
    have b0 := wf_i64 hw0
    exact ⟨(n0, m1, m2), rfl, b0.1, b0.2, b1, b2⟩
end
end Go.Proofs.Ytimdaioojnohmaa
