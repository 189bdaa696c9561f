/-
  chart.Split at every request; keelsonref37.Split; chart.Whole.
-/
import Derived.Test.YtimdaioojnohmaaSplit
namespace Go.Proofs.Ytimdaioojnohmaa
open Go.RowKit

/-- A slice of parts of the program, of which nothing was there before w0. -/
def PartsAt (w0 w : World) (v : Value) (l : List CPart) : Prop :=
  ∃ A k, v = .slice A l.length k ∧ w.ownsRow 0 32 3 (.slice A l.length k) l.length (l.flatMap pcells) ∧ ∀ b, (Value.slice A l.length k).ownBlock = some b → w0.heap.size ≤ b

theorem split_all (a c per most : Nat) (w : World) (ha : a < 4294967296) (hc : c < 4294967296) (hp : per < 4294967296) (hm : most < 4294967296) :
    Calls Try.prog 14 #[.agg #[.int .u32 a, .int .u32 c], .int .u32 per, .int .u32 most] w fun e w' => ∃ v, e = .returned v ∧ PartsAt w w' v (split a c per most) ∧ Keep No w w' := by
  have nil : ∀ w', PartsAt w w' (.slice none 0 0) [] := fun w' => ⟨none, 0, rfl, World.ownsRow_nil _ _ _ _, fun b hb => by simp [Value.ownBlock] at hb⟩
  by_cases h0 : per = 0
  · subst h0
    have hS : split a c 0 most = [] := by unfold split; rw [if_pos (.inl rfl)]
    rw [hS]
    clear hS
    go_enter Try.func14, Try.ntmps14
    go_wp2_with fail
    go_step3
    go_wp2_with fail
    try rw [Exit.noGoto_ret]
    go_ret
    exact ⟨_, rfl, nil _, (((Keep.refl _ _).alloc _).alloc _).alloc _⟩
  by_cases h1 : most = 0
  · subst h1
    have hS : split a c per 0 = [] := by unfold split; rw [if_pos (.inr (.inl rfl))]
    have hz0 : ((per : Int) == 0) = false := by simp; omega
    rw [hS]
    clear hS
    go_enter Try.func14, Try.ntmps14
    go_wp2_with fail
    go_step3
    go_wp2_with fail
    try rw [Exit.noGoto_ret]
    go_ret
    exact ⟨_, rfl, nil _, (((Keep.refl _ _).alloc _).alloc _).alloc _⟩
  by_cases h2 : 4294967296 < a + c
  · have hS : split a c per most = [] := by unfold split; rw [if_pos (.inr (.inr h2))]
    have hz0 : ((per : Int) == 0) = false := by simp; omega
    have hz1 : ((most : Int) == 0) = false := by simp; omega
    have hz2 : decide ((4294967296 : Int) < (a : Int) + (c : Int)) = true := by simp; omega
    rw [hS]
    clear hS
    go_enter Try.func14, Try.ntmps14
    go_wp2_with fail
    go_step3
    go_wp2_with fail
    refine (end_any a c _ ha hc).mono ?_
    rintro e w1 ⟨rfl, rfl⟩
    go_wp2_with fail
    try rw [Exit.noGoto_ret]
    go_ret
    exact ⟨_, rfl, nil _, ((((Keep.refl _ _).alloc _).alloc _).alloc _).alloc _⟩
  exact (split_any a c per most w ha hc hp hm (by omega) (by omega) (by omega)).mono fun e w' ⟨A, k, l, he, hl, ho, hb, hk⟩ => by
    subst hl
    exact ⟨_, he, ⟨A, k, rfl, ho, hb⟩, hk⟩

theorem PartsAt.at_ {w0 w : World} {v : Value} {l : List CPart} (h : PartsAt w0 w v l) (i : Nat) (hi : i < l.length) :
    ∃ b k, v = .slice (some ⟨b, 0, none⟩) l.length k ∧ l.length ≤ k ∧ w.cell? ⟨b, i * 3, none⟩ = some (.complex .f64 (F l[i].ch) (F l[i].bl)) ∧ w.cell? ⟨b, i * 3 + 1, none⟩ = some (.int .u32 l[i].n) ∧ w.cell? ⟨b, i * 3 + 2, none⟩ = some (.int .u32 l[i].off) := by
  obtain ⟨A, k, rfl, ho, hb⟩ := h
  rcases ho.2 with ⟨hv, h0⟩ | ⟨g, cap, cur, hv, _, hg, hc, _⟩
  · omega
  · injection hv with hA _ hk
    subst hA hk
    refine ⟨g, k, rfl, hc, ?_, ?_, ?_⟩
    all_goals
      first
      | (have := ho.cells (g := g) rfl (i * 3 + 0) _ ((flat_get pcells 3 (fun _ => rfl) l i 0 hi (by decide)).trans rfl); rw [Addr.add_at, Nat.zero_add] at this; exact this)
      | (have := ho.cells (g := g) rfl (i * 3 + 1) _ ((flat_get pcells 3 (fun _ => rfl) l i 1 hi (by decide)).trans rfl); rw [Addr.add_at, Nat.zero_add] at this; exact this)
      | (have := ho.cells (g := g) rfl (i * 3 + 2) _ ((flat_get pcells 3 (fun _ => rfl) l i 2 hi (by decide)).trans rfl); rw [Addr.add_at, Nat.zero_add] at this; exact this)

theorem PartsAt.keep {w0 w w' : World} {v : Value} {l : List CPart} (h : PartsAt w0 w v l) (hk : Keep No w w') : PartsAt w0 w' v l := by
  obtain ⟨A, k, rfl, ho, hb⟩ := h
  exact ⟨A, k, rfl, own_keep ho hk (fun _ _ h => h), hb⟩

/-- All blocks of parts. -/
def total (l : List CPart) : Nat := (l.map (·.n)).sum
theorem total_take (l : List CPart) (k : Nat) : total (l.take k) ≤ total l := by
  have e : total l = total (l.take k) + total (l.drop k) := by
    unfold total
    rw [← List.sum_append, ← List.map_append, List.take_append_drop]
  omega
theorem total_succ (l : List CPart) (k : Nat) (h : k < l.length) : total (l.take (k + 1)) = total (l.take k) + l[k].n := by
  unfold total
  rw [List.take_succ_eq_append_getElem h, List.map_append, List.sum_append]
  simp
theorem cut_total (per most a c : Nat) (hp : 0 < per) (hm : 0 < most) : ∀ d off, c - off = d → total (cut per most a c off) = c - off := by
  intro d
  induction d using Nat.strongRecOn with
  | _ d ih =>
    intro off hd
    by_cases h : off < c
    · have h1 := piece_pos hp hm h (a := a)
      have h2 := piece_le h (per := per) (most := most) (a := a)
      rw [cut_step hp hm h]
      show _ + total (cut per most a c (off + piece per most a c off)) = _
      rw [ih (c - (off + piece per most a c off)) (by omega) _ rfl]
      simp only
      omega
    · rw [cut_end (by omega)]
      simp [total]; omega
theorem split_total (a c per most : Nat) (h : split a c per most ≠ []) : total (split a c per most) = c := by
  unfold split at h ⊢
  split
  · rename_i h1; rw [if_pos h1] at h; exact absurd rfl h
  · rename_i h1
    rw [if_neg h1] at h
    split
    · exact cut_total per most a c (by omega) (by omega) _ 0 rfl
    · rename_i h2; rw [if_neg h2] at h; exact absurd rfl h

theorem whole_any (w0 : World) (v : Value) (l : List CPart) (w : World) (h : PartsAt w0 w v l) (hl : l.length ≤ 4096) (ht : total l ≤ 4294967296) :
    Calls Try.prog 18 #[v] w fun e w' => e = .returned (.int .u64 (total l : Nat)) ∧ w = w' := by
  have H := Lib.hid h
  obtain ⟨A, k, rfl, -, -⟩ := h
  go_enter Try.func18, Try.ntmps18
  go_wp2_with fail
  go_loopw [2, 6] (fun tv iv wr => ∃ i, i ≤ l.length ∧ iv = .int .i64 (i : Nat) ∧ tv = .int .u64 (total (l.take i) : Nat) ∧ w = wr) (fun _ iv _ => l.length - (intOf iv).toNat)
  case atStart => exact ⟨0, Nat.zero_le _, rfl, rfl, rfl⟩
  case round =>
    obtain ⟨i, hi, rfl, rfl, rfl⟩ := hrel
    by_cases hlt : i < l.length
    · obtain ⟨b, k', hv, hk', c0, c1, c2⟩ := H.out.at_ i hlt
      injection hv with hA _ hkk
      subst hA hkk
      have hs := total_succ l i hlt
      have hle := total_take l (i + 1)
      rw [hs] at hle
      have HS := Lib.hid hs
      clear hs c0 c2
      generalize total (l.take i) = T at *
      go_wp2_with fail
      exact ⟨⟨i + 1, by omega, by simp, by rw [HS.out]; simp, trivial⟩, by simp [intOf]; omega⟩
    · obtain rfl : i = l.length := by omega
      rw [List.take_length]
      go_wp2_with fail
      go_ret
      exact ⟨rfl, rfl⟩
theorem split_len (a c per most : Nat) : (split a c per most).length ≤ 4096 := by
  unfold split
  split
  · simp
  · split
    · assumption
    · simp
theorem split_total_le (a c per most : Nat) : total (split a c per most) ≤ c := by
  by_cases h : split a c per most = []
  · rw [h]; simp [total]
  · rw [split_total a c per most h]; exact Nat.le_refl _
end Go.Proofs.Ytimdaioojnohmaa
