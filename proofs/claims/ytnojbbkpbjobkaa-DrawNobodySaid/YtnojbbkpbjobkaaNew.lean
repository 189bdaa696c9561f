/-
  New, lives and DrawAll walked.
-/
import Derived.Test.YtnojbbkpbjobkaaSrc
import Derived.Test.YtnojbbkpbjobkaaMem
namespace Go.Proofs.Ytnojbbkpbjobkaa
open Go.RowKit

def u8v (x : UInt8) : Value := .int .u8 x.toNat
theorem u8v_one (bs : List UInt8) : ∀ u ∈ bs.map u8v, u.oneCell' = true := by intro u hu; obtain ⟨x, _, rfl⟩ := List.mem_map.1 hu; rfl
theorem Try.info5 : (Try.prog.info? 5).map (fun i => (i.zero, i.size, i.bytes)) = some (some (.int .u8 0), 1, 1) := by kernel_rfl

theorem src_of_own {w : World} {v : Value} {bs : List UInt8} (ho : w.ownsRow 0 5 1 v bs.length (bs.map u8v)) : Src (w.alloc (.cells #[v] 31)) w.heap.size bs := by
  have hs := Sl.of_own ho
  have hg : ∀ k, v.ownBlock = some k → k ≠ w.heap.size := fun k hk => by have := (ho.lt k hk).2; omega
  have hk : Keep No w (w.alloc (.cells #[v] 31)) := (Keep.refl _ _).alloc _
  rcases hs.keep hk (fun _ _ h => h) with ⟨rfl, h1, h2⟩ | ⟨b, o, c, rfl, hc, h⟩
  · obtain rfl : bs = [] := List.eq_nil_of_length_eq_zero h1
    exact ⟨none, 0, blk_new _ _, Nat.zero_le _, fun i x hx => absurd hx (by simp)⟩
  · exact ⟨_, c, blk_new _ _, hc, fun i x hx => ⟨b, o, rfl, hg b rfl, h i _ (by simp [hx, u8v])⟩⟩

theorem new_any (v : Value) (bs : List UInt8) (w : World) (h : Sl w v bs.length (bs.map u8v)) (hl : bs.length ≤ 140737488351232) : Calls Try.prog 5 #[v] w fun e w' =>
    ∃ g, e = .returned (.pointer (some ⟨g, 0, none⟩)) ∧ Src w' g bs ∧ w.heap.size ≤ g ∧ Keep No w w' := by
  have hown : (w.alloc (.cells #[] 5)).ownsRow 0 5 1 (.slice (some ⟨w.heap.size, 0, none⟩) 0 0) 0 [] := World.ownsRow_made w #[] 0 (Nat.zero_le _) (by simp [maxLen]) rfl
  have hs : Sl (w.alloc (.cells #[] 5)) v bs.length (bs.map u8v) := h.keep ((Keep.refl No _).alloc _) (fun _ _ h => h)
  have h63 : 0 + bs.length ≤ maxLen := by simp only [maxLen]; omega
  have h1 := u8v_one bs
  go_enter Try.func5, Try.ntmps5
  go_wp2_with (at_builtin; refine wpList_app rfl _ _ 26 rfl 5 (.int .u8 0) 1 1 Try.underlying26 Try.info5 rfl (by decide) _ 0 [] hown rfl v bs.length _ hs rfl (by simp) h1 (by omega) h63 ?_; intro A' c' w' ho hk hn)
  go_ret
  have hK : Keep No w w' := ((Keep.refl No w).alloc _).fresh hk (fun i hi => by simp [Own, Value.ownBlock] at hi; omega)
  exact ⟨_, rfl, src_of_own (by simpa using ho), hK.size, hK.alloc _⟩

end Go.Proofs.Ytnojbbkpbjobkaa
