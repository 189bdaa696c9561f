/-
  A disk that no call made: each call walked.
-/
import Derived.Test.YtimdaioojnohmaaDFun
namespace Go.Proofs.Ytimdaioojnohmaa
open Go.RowKit

/-- No disk, or one of noughts. -/
def NoDisk (w : World) (p : Value) : Prop := p = .pointer none ∨ ∃ g cs, p = .pointer (some ⟨g, 0, none⟩) ∧ w.heap[g]? = some (.cells cs 71 (0, 0)) ∧ cs[1]? = some (.int .u32 0) ∧ cs[2]? = some (.int .u32 0) ∧ cs[5]? = some (.int .u64 0)
theorem NoDisk.keep {w w' : World} {p : Value} (h : NoDisk w p) (hk : Keep No w w') : NoDisk w' p := by
  rcases h with h | ⟨g, cs, h1, h2, r⟩
  · exact .inl h
  · exact .inr ⟨g, cs, h1, hk.blk h2 (fun h => h), r⟩
theorem nd_none (w : World) (p : Value) (h : NoDisk w p) : Calls Try.prog 68 #[p] w fun e w' => e = .returned (.bool true) ∧ w = w' := by
  rcases h with rfl | ⟨g, cs, rfl, hb, h1, -, -⟩
  · exact dnone_nil w
  · exact dnone_at g 0 w ((blk_cell hb 1).trans h1)
theorem nd_blocks (w : World) (p : Value) (h : NoDisk w p) : Calls Try.prog 27 #[p] w fun e w' => e = .returned (.int .u32 0) ∧ w = w' := by
  rcases h with rfl | ⟨g, cs, rfl, hb, -, h1, -⟩
  · exact dblocks_nil w
  · exact dblocks_at g 0 w ((blk_cell hb 2).trans h1)
theorem nd_tasks (w : World) (p : Value) (h : NoDisk w p) : Calls Try.prog 28 #[p] w fun e w' => e = .returned (.int .u64 0) ∧ w = w' := by
  rcases h with rfl | ⟨g, cs, rfl, hb, -, -, h1⟩
  · exact dtasks_nil w
  · exact dtasks_at g 0 w ((blk_cell hb 5).trans h1)
theorem nd_write (w : World) (p : Value) (a now : Int) (s : ByteArray) (h : NoDisk w p) (_hs : s.size < 4611686018427387904) : Calls Try.prog 31 #[p, .int .u32 a, .string s, .int .u64 now] w fun e w' => e = .returned (.tuple #[.int .u64 0, .slice none 0 0, .int .i64 1]) ∧ Keep No w w' := by
  have hn := Lib.hid (nd_none w p h)
  clear h
  go_enter Try.func31, Try.ntmps31
  go_wp2_with fail
  refine hn.out.mono ?_
  rintro e w1 ⟨rfl, rfl⟩
  go_wp2_with fail
  refine bodyPost_ret (results_tmp3 rfl _ _ _) rfl ?_
  exact ⟨rfl, Keep.refl _ _⟩
theorem nd_read (w : World) (p : Value) (a c now : Int) (h : NoDisk w p) : Calls Try.prog 32 #[p, .int .u32 a, .int .u32 c, .int .u64 now] w fun e w' => e = .returned (.tuple #[.int .u64 0, .slice none 0 0, .int .i64 1]) ∧ Keep No w w' := by
  have hn := Lib.hid (nd_none w p h)
  clear h
  go_enter Try.func32, Try.ntmps32
  go_wp2_with fail
  refine hn.out.mono ?_
  rintro e w1 ⟨rfl, rfl⟩
  go_wp2_with fail
  refine bodyPost_ret (results_tmp3 rfl _ _ _) rfl ?_
  exact ⟨rfl, Keep.refl _ _⟩
theorem nd_flush (w : World) (p : Value) (now : Int) (h : NoDisk w p) : Calls Try.prog 33 #[p, .int .u64 now] w fun e w' => e = .returned (.tuple #[.int .u64 0, .int .i64 1]) ∧ Keep No w w' := by
  have hn := Lib.hid (nd_none w p h)
  clear h
  go_enter Try.func33, Try.ntmps33
  go_wp2_with fail
  refine hn.out.mono ?_
  rintro e w1 ⟨rfl, rfl⟩
  go_wp2_with fail
  go_ret2
  exact ⟨rfl, Keep.refl _ _⟩
theorem nd_state (w : World) (p : Value) (id : Int) (h : NoDisk w p) : Calls Try.prog 29 #[p, .int .u64 id] w fun e w' => e = .returned (.tuple #[.int .i64 0, .string ByteArray.empty]) ∧ Keep No w w' := by
  have hn := Lib.hid (nd_none w p h)
  clear h
  go_enter Try.func29, Try.ntmps29
  go_wp2_with fail
  refine hn.out.mono ?_
  rintro e w1 ⟨rfl, rfl⟩
  go_wp2_with fail
  go_ret2
  exact ⟨rfl, Keep.refl _ _⟩
theorem nd_told (w : World) (p : Value) (id k : Int) (s : ByteArray) (h : NoDisk w p) : Calls Try.prog 34 #[p, .int .u64 id, .int .i64 k, .string s] w fun e w' => e = .returned (.int .i64 1) ∧ Keep No w w' := by
  have hn := Lib.hid (nd_none w p h)
  clear h
  go_enter Try.func34, Try.ntmps34
  go_wp2_with fail
  refine hn.out.mono ?_
  rintro e w1 ⟨rfl, rfl⟩
  go_wp2_with fail
  go_ret
  exact ⟨rfl, Keep.refl _ _⟩
theorem nd_grow (w : World) (p v : Value) (b : Int) (h : NoDisk w p) : Calls Try.prog 35 #[p, .int .u32 b, v] w fun e w' => e = .returned (.int .i64 1) ∧ Keep No w w' := by
  have hn := Lib.hid (nd_none w p h)
  clear h
  go_enter Try.func35, Try.ntmps35
  go_wp2_with fail
  refine hn.out.mono ?_
  rintro e w1 ⟨rfl, rfl⟩
  go_wp2_with fail
  go_ret
  exact ⟨rfl, Keep.refl _ _⟩
theorem nd_tick (w : World) (p : Value) (now : Int) (h : NoDisk w p) : Calls Try.prog 36 #[p, .int .u64 now] w fun e w' => e = .returned (.slice none 0 0) ∧ Keep No w w' := by
  have hn := Lib.hid (nd_none w p h)
  clear h
  go_enter Try.func36, Try.ntmps36
  go_wp2_with fail
  refine hn.out.mono ?_
  rintro e w1 ⟨rfl, rfl⟩
  go_wp2_with fail
  go_ret
  exact ⟨rfl, Keep.refl _ _⟩
theorem nd_open (w : World) (p : Value) (h : NoDisk w p) : Calls Try.prog 25 #[p] w fun e w' => e = .returned (.slice none 0 0) ∧ Keep No w w' := by
  have hn := Lib.hid (nd_none w p h)
  clear h
  go_enter Try.func25, Try.ntmps25
  go_wp2_with fail
  refine hn.out.mono ?_
  rintro e w1 ⟨rfl, rfl⟩
  go_wp2_with fail
  go_ret
  exact ⟨rfl, Keep.refl _ _⟩
end Go.Proofs.Ytimdaioojnohmaa
