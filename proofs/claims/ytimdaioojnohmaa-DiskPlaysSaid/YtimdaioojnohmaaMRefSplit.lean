/-
  keelsonref37.Split at every request.
-/
import Derived.Test.YtimdaioojnohmaaMFloat
import Derived.Test.YtimdaioojnohmaaRows
import Derived.Test.YtimdaioojnohmaaMBase
namespace Go.Proofs.Ytimdaioojnohmaa
open Go.RowKit

theorem Try.info35 : (Try.prog.info? 35).map (fun i => (i.zero, i.size, i.bytes)) = some (some (.agg #[.int .u64 0, .int .u64 0, .int .u64 0, .int .u64 0]), 4, 32) := by kernel_rfl

def RPartsAt (w0 w : World) (v : Value) (l : List CPart) : Prop :=
  ∃ A k, v = .slice A l.length k ∧ w.ownsRow 0 35 4 (.slice A l.length k) l.length (l.flatMap rcells) ∧ ∀ b, (Value.slice A l.length k).ownBlock = some b → w0.heap.size ≤ b

set_option maxRecDepth 100000 in
theorem rsplit_any (a c per most : Nat) (w : World) (ha : a < 4294967296) (hc : c < 4294967296) (hp : per < 4294967296) (hm : most < 4294967296) (h0 : 0 < per) (h1 : 0 < most) (h3 : 0 < c) (h2 : a + c ≤ 4294967296) :
    Calls Try.prog 15 #[.int .u64 a, .int .u64 c, .int .u64 per, .int .u64 most] w fun e w' => ∃ v, e = .returned v ∧ RPartsAt w w' v (split a c per most) ∧ Keep No w w' := by
  have hz0 : ((per : Int) == 0) = false := by simp; omega
  have hz1 : ((most : Int) == 0) = false := by simp; omega
  have hz3 : ((c : Int) == 0) = false := by simp; omega
  have hz2 : decide ((4294967296 : Int) < (a : Int) + (c : Int)) = false := by simp; omega
  have hS : Hid (split a c per most = if (cut per most a c 0).length ≤ 4096 then cut per most a c 0 else []) := by
    show split a c per most = _
    unfold split
    rw [if_neg (by omega)]
  go_enter Try.func15, Try.ntmps15
  go_wp2_with fail
  go_loopw [9, 10] (fun ov atv wr => ∃ (out : List CPart) (A : Option Addr) (k off t : Nat), ov = .slice A out.length k ∧ atv = .int .u64 (t : Nat) ∧ Hid (t = a + off) ∧ a ≤ t ∧ t ≤ a + c ∧
    wr.ownsRow 0 35 4 (.slice A out.length k) out.length (out.flatMap rcells) ∧ (∀ b, (Value.slice A out.length k).ownBlock = some b → w.heap.size ≤ b) ∧ Keep No w wr ∧
    Hid (out ++ cut per most a c off = cut per most a c 0) ∧ out.length ≤ 4096) (fun _ atv _ => a + c - (intOf atv).toNat)
  case atStart => exact ⟨[], none, 0, 0, a, rfl, rfl, rfl, by omega, by omega, World.ownsRow_nil _ _ _ _, fun b hb => by simp [Value.ownBlock] at hb, Keep.refl _ _, rfl, by simp⟩
  case round =>
    obtain ⟨out, A, k, off, t, rfl, rfl, ht, ht1, ht2, ho, hA, hk, hcut, hlen⟩ := hrel
    by_cases hlt : t < a + c
    · have hoff : off < c := by have := ht.out; omega
      obtain ⟨N, hN⟩ : ∃ N, piece per most a c off = N := ⟨_, rfl⟩
      have hmod := Nat.mod_lt t h0
      have hst := cut_step h0 h1 hoff (a := a)
      have hN1 := piece_pos h0 h1 hoff (a := a)
      have hN2 := piece_le hoff (per := per) (most := most) (a := a)
      rw [← ht.out, hN] at hst
      rw [hN] at hN1 hN2
      have hN3 : min (per - t % per) (min most (a + c - t)) = N := by
        rw [← hN]; unfold piece; rw [← ht.out]
        have := ht.out
        congr 2
        omega
      have e1 : (if (a : Int) + (c : Int) - (t : Int) < (most : Int) then (a : Int) + (c : Int) - (t : Int) else (most : Int)) = ((min most (a + c - t) : Nat) : Int) := by split <;> omega
      have e2 : (t : Int) % (per : Int) = ((t % per : Nat) : Int) := rfl
      have e3 : (if ((min most (a + c - t) : Nat) : Int) < (per : Int) - ((t % per : Nat) : Int) then ((min most (a + c - t) : Nat) : Int) else (per : Int) - ((t % per : Nat) : Int)) = ((N : Nat) : Int) := by
        rw [← hN3]; split <;> omega
      have e4 : (t : Int) / (per : Int) = ((t / per : Nat) : Int) := rfl
      have e5 : (t : Int).tmod (per : Int) = ((t % per : Nat) : Int) := by rw [Int.tmod_eq_emod_of_nonneg (by omega)]; rfl
      have hq : t / per ≤ t := Nat.div_le_self t per
      clear hN
      have HN3 := Lib.hid hN3
      clear hN3
      generalize min most (a + c - t) = M1 at *
      generalize t % per = i at *
      generalize t / per = q at *
      have hdiff : (t : Int) - (a : Int) = ((off : Nat) : Int) := by have := ht.out; omega
      have hso : Sl ((wr.alloc (.cells #[.int .u64 (q : Nat), .int .u64 (i : Nat), .int .u64 (N : Nat), .int .u64 (off : Nat)] 35)).drew) (.slice (some ⟨wr.heap.size, 0, none⟩) 1 1) 1 (rcells ⟨q, i, N, off⟩) := Sl.lit wr _ 35 1
      have hwn : ((wr.alloc (.cells #[.int .u64 (q : Nat), .int .u64 (i : Nat), .int .u64 (N : Nat), .int .u64 (off : Nat)] 35)).drew).ownsRow 0 35 4 (.slice A out.length k) out.length (out.flatMap rcells) := World.ownsRow.alloc ho _
      have kn : Keep No wr ((wr.alloc (.cells #[.int .u64 (q : Nat), .int .u64 (i : Nat), .int .u64 (N : Nat), .int .u64 (off : Nat)] 35)).drew) := ((Keep.refl No wr).alloc _).drew
      have hone : ∀ u ∈ rcells ⟨q, i, N, off⟩, u.oneCell' = true := by intro u hu; simp [rcells] at hu; rcases hu with rfl | rfl | rfl | rfl <;> rfl
      have h63 : out.length + 1 ≤ maxLen := by simp only [maxLen]; omega
      have hpn : ¬ per = 0 := by omega
      have hwq := IntWalk.u64_in (q : Int) (by omega)
      have hwo := IntWalk.u64_in (off : Int) (by omega)
      go_wp2_with fail
      go_region_law (refine step_app rfl _ _ 27 rfl 35 _ 4 32 Try.underlying27 Try.info35 rfl (by decide) _ out.length _ hwn rfl _ 1 (rcells ⟨q, i, N, off⟩) hso rfl rfl hone (by omega) h63 ?_; intro A' k' w' ho' hk' hn')
      have HST := Lib.hid hst
      have hA' : ∀ b, (Value.slice A' (out.length + 1) k').ownBlock = some b → w.heap.size ≤ b := fun b hb => by
        rcases hn' b hb with e | e
        · exact hA b e
        · have := hk.size
          have := kn.size
          omega
      have hK : Keep No w w' := hk.fresh (kn.no.trans hk') hA
      clear e1 e2 e3 e4 e5 hwq hwo hpn hso hwn hone hst hn'
      go_wp2_with fail
      · have hgt : (4096 : Int) < (out.length : Int) + 1 := by assumption
        go_ret
        have e2 : split a c per most = [] := by
          rw [hS.out, if_neg]
          rw [← hcut.out, List.length_append, HST.out, List.length_cons]
          omega
        rw [e2]
        exact ⟨_, rfl, ⟨none, 0, rfl, World.ownsRow_nil _ _ _ _, fun b hb => by simp [Value.ownBlock] at hb⟩, hK⟩
      · have hle : (out.length : Int) + 1 ≤ 4096 := by assumption
        refine ⟨⟨out ++ [⟨q, i, N, off⟩], A', k', off + N, t + N, by rw [List.length_append]; rfl, by simp, ?_, by omega, by omega, ?_, ?_, hK, ?_, by rw [List.length_append]; simp; omega⟩, by simp [intOf]; omega⟩
        · show t + N = a + (off + N)
          have := ht.out
          omega
        · rw [List.length_append, flat_snoc]
          exact ho'
        · intro b hb
          rw [List.length_append] at hb
          exact hA' b hb
        · show _ = _
          rw [List.append_assoc, ← hcut.out, HST.out]
          rfl
    · obtain rfl : off = c := by have := ht.out; omega
      go_wp2_with fail
      go_ret
      have e := hcut.out
      rw [cut_end (Nat.le_refl _), List.append_nil] at e
      have e2 : split a off per most = out := by rw [hS.out, ← e, if_pos hlen]
      rw [e2]
      exact ⟨_, rfl, ⟨A, k, rfl, ho, hA⟩, hk⟩

theorem rsplit_all (a c per most : Nat) (w : World) (ha : a < 4294967296) (hc : c < 4294967296) (hp : per < 4294967296) (hm : most < 4294967296) :
    Calls Try.prog 15 #[.int .u64 a, .int .u64 c, .int .u64 per, .int .u64 most] w fun e w' => ∃ v, e = .returned v ∧ RPartsAt w w' v (split a c per most) ∧ Keep No w w' := by
  by_cases hbad : per = 0 ∨ most = 0 ∨ c = 0 ∨ 4294967296 < a + c
  · have hS : split a c per most = [] := by
      unfold split
      by_cases h : per = 0 ∨ most = 0 ∨ 4294967296 < a + c
      · rw [if_pos h]
      · have h0 : c = 0 := by omega
        rw [if_neg h, h0, cut_end (Nat.le_refl 0)]
        rfl
    rw [hS]
    clear hS
    have nil : ∀ w', RPartsAt w w' (.slice none 0 0) [] := fun w' => ⟨none, 0, rfl, World.ownsRow_nil _ _ _ _, fun b hb => by simp [Value.ownBlock] at hb⟩
    rcases hbad with rfl | hbad
    · go_enter Try.func15, Try.ntmps15
      go_wp2_with fail
      go_ret
      exact ⟨_, rfl, nil _, Keep.refl _ _⟩
    by_cases h0 : per = 0
    · subst h0
      go_enter Try.func15, Try.ntmps15
      go_wp2_with fail
      go_ret
      exact ⟨_, rfl, nil _, Keep.refl _ _⟩
    have hz0 : ((per : Int) == 0) = false := by simp; omega
    rcases hbad with rfl | hbad
    · go_enter Try.func15, Try.ntmps15
      go_wp2_with fail
      go_ret
      exact ⟨_, rfl, nil _, Keep.refl _ _⟩
    by_cases h1 : most = 0
    · subst h1
      go_enter Try.func15, Try.ntmps15
      go_wp2_with fail
      go_ret
      exact ⟨_, rfl, nil _, Keep.refl _ _⟩
    have hz1 : ((most : Int) == 0) = false := by simp; omega
    rcases hbad with rfl | hbad
    · go_enter Try.func15, Try.ntmps15
      go_wp2_with fail
      go_ret
      exact ⟨_, rfl, nil _, Keep.refl _ _⟩
    have hz2 : decide ((4294967296 : Int) < (a : Int) + (c : Int)) = true := by simp; omega
    have hz3 : ((c : Int) == 0) = false := by simp; omega
    go_enter Try.func15, Try.ntmps15
    go_wp2_with fail
    go_ret
    exact ⟨_, rfl, nil _, Keep.refl _ _⟩
  · exact rsplit_any a c per most w ha hc hp hm (by omega) (by omega) (by omega) (by omega)

theorem RPartsAt.at_ {w0 w : World} {v : Value} {l : List CPart} (h : RPartsAt w0 w v l) (i : Nat) (hi : i < l.length) :
    ∃ b k, v = .slice (some ⟨b, 0, none⟩) l.length k ∧ l.length ≤ k ∧ w.cell? ⟨b, i * 4, none⟩ = some (.int .u64 l[i].ch) ∧ w.cell? ⟨b, i * 4 + 1, none⟩ = some (.int .u64 l[i].bl) ∧ w.cell? ⟨b, i * 4 + 2, none⟩ = some (.int .u64 l[i].n) ∧ w.cell? ⟨b, i * 4 + 3, none⟩ = some (.int .u64 l[i].off) := by
  obtain ⟨A, k, rfl, ho, hb⟩ := h
  rcases ho.2 with ⟨hv, h0⟩ | ⟨g, cap, cur, hv, _, hg, hc, _⟩
  · omega
  · injection hv with hA _ hk
    subst hA hk
    refine ⟨g, k, rfl, hc, ?_, ?_, ?_, ?_⟩
    all_goals
      first
      | (have := ho.cells (g := g) rfl (i * 4 + 0) _ ((flat_get rcells 4 (fun _ => rfl) l i 0 hi (by decide)).trans rfl); rw [Addr.add_at, Nat.zero_add] at this; exact this)
      | (have := ho.cells (g := g) rfl (i * 4 + 1) _ ((flat_get rcells 4 (fun _ => rfl) l i 1 hi (by decide)).trans rfl); rw [Addr.add_at, Nat.zero_add] at this; exact this)
      | (have := ho.cells (g := g) rfl (i * 4 + 2) _ ((flat_get rcells 4 (fun _ => rfl) l i 2 hi (by decide)).trans rfl); rw [Addr.add_at, Nat.zero_add] at this; exact this)
      | (have := ho.cells (g := g) rfl (i * 4 + 3) _ ((flat_get rcells 4 (fun _ => rfl) l i 3 hi (by decide)).trans rfl); rw [Addr.add_at, Nat.zero_add] at this; exact this)
end Go.Proofs.Ytimdaioojnohmaa
