/-
  Plain: what stands in the parts of a request.
-/
import Derived.Test.YtimdaioojnohmaaDPlain
import Derived.Test.YtimdaioojnohmaaSplits
namespace Go.Proofs.Ytimdaioojnohmaa

theorem cut_in (per most a c : Nat) : ∀ d off, c - off = d → ∀ p ∈ cut per most a c off, p.ch = (a + p.off) / per ∧ p.bl = (a + p.off) % per ∧ p.n ≤ most ∧ 0 < p.n ∧ p.off + p.n ≤ c := by
  intro d
  induction d using Nat.strongRecOn with
  | _ d ih =>
    intro off hd p hp
    rw [cut] at hp
    by_cases h : off < c ∧ 0 < piece per most a c off
    · rw [dif_pos h] at hp
      have h2 := piece_le h.1 (per := per) (most := most) (a := a)
      rcases List.mem_cons.1 hp with e | hp
      · subst e
        refine ⟨rfl, rfl, ?_, h.2, h2⟩
        show piece per most a c off ≤ most
        unfold piece; omega
      · exact ih (c - (off + piece per most a c off)) (by omega) _ rfl p hp
    · rw [dif_neg h] at hp
      cases hp
theorem split_in (a c per most : Nat) : ∀ p ∈ split a c per most, p.ch = (a + p.off) / per ∧ p.bl = (a + p.off) % per ∧ p.n ≤ most ∧ 0 < p.n ∧ p.off + p.n ≤ c := by
  intro p hp
  unfold split at hp
  split at hp
  · cases hp
  · split at hp
    · exact cut_in per most a c _ 0 rfl p hp
    · cases hp
theorem dbegin_30 (D : DD) (a c : Nat) (write : Bool) (data : ByteArray) (now : Nat) (h : c = 0 ∨ D.blocks < a + c) : dbegin D a c write data now = (0, [], 30, D) := by
  unfold dbegin
  rw [if_pos h]
theorem dbegin_11 (D : DD) (a c : Nat) (write : Bool) (data : ByteArray) (now : Nat) (h : ¬ (c = 0 ∨ D.blocks < a + c)) (h2 : 64 < (split a c D.per 8).length ∨ (split a c D.per 8).length = 0) : dbegin D a c write data now = (0, [], 11, D) := by
  unfold dbegin
  rw [if_neg h, if_pos h2]
theorem dbegin_ok (D : DD) (a c : Nat) (write : Bool) (data : ByteArray) (now : Nat) (h : ¬ (c = 0 ∨ D.blocks < a + c)) (h2 : ¬ (64 < (split a c D.per 8).length ∨ (split a c D.per 8).length = 0)) (l : List DPart) (hl : l = asksOf D.chunks (D.ts.length + 1) write data (split a c D.per 8) (split a c D.per 8).length) :
    dbegin D a c write data now = if (dadd D ⟨l, write, [], 0⟩ now).2.1 = 0 then ((dadd D ⟨l, write, [], 0⟩ now).1, l, 0, (dadd D ⟨l, write, [], 0⟩ now).2.2) else (0, [], (dadd D ⟨l, write, [], 0⟩ now).2.1, (dadd D ⟨l, write, [], 0⟩ now).2.2) := by
  unfold dbegin
  rw [if_neg h, if_neg h2, hl]
end Go.Proofs.Ytimdaioojnohmaa
