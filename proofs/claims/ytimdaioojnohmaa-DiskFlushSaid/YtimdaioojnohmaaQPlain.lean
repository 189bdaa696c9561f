/-
  Plain: a queue, by definition.
-/
import Derived.Test.YtimdaioojnohmaaZone
namespace Go.Proofs.Ytimdaioojnohmaa

abbrev QL := List (Nat × Nat)
def qcells (x : Nat × Nat) : List Value := [.int .u64 x.1, .int .u64 x.2]
def qhas (l : QL) (id : Nat) : Bool := l.any (fun x => x.1 == id)
def qput (most : Nat) (l : QL) (id now : Nat) : Nat × QL := if qhas l id then (41, l) else if most ≤ l.length then (53, l) else (0, l ++ [(id, now)])
def qdone (l : QL) (id : Nat) : Nat × QL := if qhas l id then (0, l.filter (fun x => !(x.1 == id))) else (40, l)
def islate (pat now : Nat) (x : Nat × Nat) : Bool := decide (x.2 ≤ now) && decide (pat ≤ now - x.2)
def qlate (pat : Nat) (l : QL) (now : Nat) : List Nat × QL := ((l.filter (islate pat now)).map (·.1), l.filter (fun x => !islate pat now x))
def u64v (x : Nat) : Value := .int .u64 (x : Int)
theorem u64v_one (l : List Nat) : ∀ u ∈ l.map u64v, u.oneCell' = true := by intro u hu; obtain ⟨x, _, rfl⟩ := List.mem_map.1 hu; rfl
theorem qcells_one (x : Nat × Nat) : ∀ u ∈ qcells x, u.oneCell' = true := by intro u hu; simp [qcells] at hu; rcases hu with rfl | rfl <;> rfl
/-- All numbers are of uint64. -/
def QB (l : QL) : Prop := ∀ x ∈ l, x.1 < 18446744073709551616 ∧ x.2 < 18446744073709551616
end Go.Proofs.Ytimdaioojnohmaa
