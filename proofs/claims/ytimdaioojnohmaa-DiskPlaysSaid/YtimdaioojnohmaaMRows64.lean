/-
  Rows of numbers, and of pairs, in memory; slices.Index, slices.Contains at []uint64; keelsonlaw04.Ints; queue.ids.
  package queue walked: none, All, Len, Has, Put, New.
-/
import Derived.Test.YtimdaioojnohmaaRows
import Derived.Test.YtimdaioojnohmaaMBase
import Derived.Test.YtimdaioojnohmaaMFloat
namespace Go.Proofs.Ytimdaioojnohmaa
open Go.RowKit

theorem Try.info29 : (Try.prog.info? 29).map (fun i => (i.zero, i.size, i.bytes)) = some (some (.int .u64 0), 1, 8) := by kernel_rfl
theorem Try.info160 : (Try.prog.info? 160).map (fun i => (i.zero, i.size, i.bytes)) = some (some (.agg #[.int .u64 0, .int .u64 0]), 2, 16) := by kernel_rfl

/-- A slice of these numbers. -/
def N64 (w : World) (v : Value) (l : List Nat) : Prop := Sl w v l.length (l.map u64v)
/-- A slice of these pairs. -/
def P64 (w : World) (v : Value) (l : QL) : Prop := Sl w v l.length (l.flatMap qcells)
theorem N64.at_ {w : World} {v : Value} {l : List Nat} (h : N64 w v l) (i : Nat) (hi : i < l.length) : ∃ b o c, v = .slice (some ⟨b, o, none⟩) l.length c ∧ l.length ≤ c ∧ w.cell? ⟨b, o + i, none⟩ = some (.int .u64 (l[i] : Nat)) := by
  obtain ⟨b, o, c, rfl, hc, hx⟩ := Sl.some h (by omega)
  exact ⟨b, o, c, rfl, hc, hx i _ (by simp [hi, u64v])⟩
theorem P64.at_ {w : World} {v : Value} {l : QL} (h : P64 w v l) (i : Nat) (hi : i < l.length) : ∃ b o c, v = .slice (some ⟨b, o, none⟩) l.length c ∧ l.length ≤ c ∧
    w.cell? ⟨b, o + i * 2, none⟩ = some (.int .u64 (l[i].1 : Nat)) ∧ w.cell? ⟨b, o + i * 2 + 1, none⟩ = some (.int .u64 (l[i].2 : Nat)) := by
  obtain ⟨b, o, c, rfl, hc, hx⟩ := Sl.some h (by omega)
  refine ⟨b, o, c, rfl, hc, ?_, ?_⟩
  · exact hx (i * 2 + 0) _ ((flat_get qcells 2 (fun _ => rfl) l i 0 hi (by decide)).trans rfl)
  · exact hx (i * 2 + 1) _ ((flat_get qcells 2 (fun _ => rfl) l i 1 hi (by decide)).trans rfl)

theorem index_any (v : Value) (l : List Nat) (id : Nat) (w : World) (h : N64 w v l) (hl : l.length ≤ 4503599627370496) : Calls Try.prog 95 #[v, .int .u64 id] w fun e w' =>
    (∃ r : Int, e = .returned (.int .i64 r) ∧ (0 ≤ r ↔ id ∈ l)) ∧ w = w' := by
  obtain ⟨A, c, rfl, -⟩ := Sl.shape h
  have H := Lib.hid h
  clear h
  go_enter Try.func95, Try.ntmps95
  go_wp2_with fail
  go_loopw [8] (fun iv wr => ∃ i, i ≤ l.length ∧ iv = .int .i64 (i : Nat) ∧ Hid (id ∉ l.take i) ∧ w = wr) (fun iv _ => l.length - (intOf iv).toNat)
  case atStart => exact ⟨0, Nat.zero_le _, rfl, by show _ ∉ _; simp, rfl⟩
  case round =>
    obtain ⟨i, hi, rfl, hno, rfl⟩ := hrel
    by_cases hlt : i < l.length
    · obtain ⟨b, o, c', hv, hc', hcell⟩ := H.out.at_ i hlt
      injection hv with hA _ hcc
      subst hA hcc
      by_cases he : id = l[i]
      · have he2 : ((id : Int) == (l[i] : Int)) = true := beq_iff_eq.2 (by omega)
        have HE := Lib.hid he
        clear he
        go_wp2_with fail
        go_ret
        exact ⟨⟨i, rfl, by have := HE.out; rw [this]; simp⟩, rfl⟩
      · have he2 : ((id : Int) == (l[i] : Int)) = false := beq_eq_false_iff_ne.2 (by omega)
        have HE := Lib.hid he
        clear he
        go_wp2_with fail
        refine ⟨⟨i + 1, by omega, by simp, ?_, trivial⟩, by simp [intOf]; omega⟩
        show _ ∉ _
        rw [List.take_succ_eq_append_getElem hlt, List.mem_append]
        have := HE.out
        have := hno.out
        simp_all
    · go_wp2_with fail
      go_ret
      refine ⟨⟨-1, rfl, ?_⟩, rfl⟩
      have := hno.out
      rw [List.take_of_length_le (by omega)] at this
      simp [this]
theorem contains_any (v : Value) (l : List Nat) (id : Nat) (w : World) (h : N64 w v l) (hl : l.length ≤ 4503599627370496) : Calls Try.prog 85 #[v, .int .u64 id] w fun e w' =>
    e = .returned (.bool (decide (id ∈ l))) ∧ w = w' := by
  have hc := index_any v l id w h hl
  clear h
  go_enter Try.func85, Try.ntmps85
  go_wp2_with fail
  refine hc.mono ?_
  rintro e w' ⟨⟨r, rfl, hr⟩, rfl⟩
  have HR := Lib.hid hr
  clear hr
  go_wp2_with fail
  go_ret
  refine ⟨ret_bool ?_, rfl⟩
  exact decide_eq_decide.2 HR.out

/-- A row of numbers that is nobody else's, new since w0. -/
def New64 (w0 w : World) (v : Value) (l : List Nat) : Prop := ∃ A k, v = .slice A l.length k ∧ w.ownsRow 0 29 1 (.slice A l.length k) l.length (l.map u64v) ∧ ∀ b, (Value.slice A l.length k).ownBlock = some b → w0.heap.size ≤ b
theorem New64.nil (w0 w : World) : New64 w0 w (.slice none 0 0) [] := ⟨none, 0, rfl, World.ownsRow_nil _ _ _ _, fun b hb => by simp [Value.ownBlock] at hb⟩
theorem New64.n64 {w0 w : World} {v : Value} {l : List Nat} (h : New64 w0 w v l) : N64 w v l := by
  obtain ⟨A, k, rfl, ho, -⟩ := h
  exact Sl.of_own ho
theorem New64.keep {w0 w w' : World} {v : Value} {l : List Nat} (h : New64 w0 w v l) (hk : Keep No w w') : New64 w0 w' v l := by
  obtain ⟨A, k, rfl, ho, hb⟩ := h
  exact ⟨A, k, rfl, own_keep ho hk (fun _ _ h => h), hb⟩
theorem New64.since {w0 w1 w : World} {v : Value} {l : List Nat} (h : New64 w1 w v l) (hs : w0.heap.size ≤ w1.heap.size) : New64 w0 w v l := by
  obtain ⟨A, k, rfl, ho, hb⟩ := h
  exact ⟨A, k, rfl, ho, fun b hbb => Nat.le_trans hs (hb b hbb)⟩
theorem N64.keep {w w' : World} {v : Value} {l : List Nat} (h : N64 w v l) (hk : Keep No w w') : N64 w' v l := Sl.keep h hk (fun _ _ h => h)
theorem P64.keep {w w' : World} {v : Value} {l : QL} (h : P64 w v l) (hk : Keep No w w') : P64 w' v l := Sl.keep h hk (fun _ _ h => h)

theorem ints_any (v u : Value) (l m : List Nat) (w : World) (h : N64 w v l) (h2 : N64 w u m) (hl : l.length ≤ 4503599627370496) (hm : m.length ≤ 4503599627370496) : Calls Try.prog 51 #[v, u] w fun e w' =>
    e = .returned (.bool (decide (l = m))) ∧ ∃ n, w' = w.drewN n := by
  obtain ⟨A, c, rfl, -⟩ := Sl.shape h
  obtain ⟨A2, c2, rfl, -⟩ := Sl.shape h2
  have H := Lib.hid h
  have H2 := Lib.hid h2
  clear h h2
  by_cases hlen : l.length = m.length
  · have hlen2 : ((l.length : Int) == (m.length : Int)) = true := beq_iff_eq.2 (by omega)
    have hlen3 : ((l.length : Int) != (m.length : Int)) = false := by rw [bne_eq_false_iff_eq]; omega
    have HL := Lib.hid hlen
    clear hlen
    go_enter Try.func51, Try.ntmps51
    go_wp2_with fail
    go_loopw [13] (fun iv wr => ∃ i, i ≤ l.length ∧ iv = .int .i64 (i : Nat) ∧ Hid (l.take i = m.take i) ∧ ∃ n, wr = w.drewN n) (fun iv _ => l.length - (intOf iv).toNat)
    case atStart => exact ⟨0, Nat.zero_le _, rfl, by show _ = _; simp, 0, rfl⟩
    case round =>
      obtain ⟨i, hi, rfl, hno, nn, rfl⟩ := hrel
      by_cases hlt : i < l.length
      · have hlt2 : i < m.length := by have := HL.out; omega
        obtain ⟨b, o, c', hv, hc', hcell⟩ := H.out.at_ i hlt
        obtain ⟨b2, o2, c2', hv2, hc2', hcell2⟩ := H2.out.at_ i hlt2
        injection hv with hA _ hcc
        subst hA hcc
        injection hv2 with hA2 _ hcc2
        subst hA2 hcc2
        by_cases he : l[i] = m[i]
        · have he2 : ((l[i] : Int) != (m[i] : Int)) = false := by rw [bne_eq_false_iff_eq]; omega
          have HE := Lib.hid he
          clear he hlen2 hlen3
          generalize hx : l[i] = x at *
          generalize hy : m[i] = y at *
          have HX := Lib.hid hx
          have HY := Lib.hid hy
          clear hx hy
          go_wp2_with fail
          go_quiet (fail)
          go_wp2_with fail
          refine ⟨⟨i + 1, by omega, by simp, ?_, _, rfl⟩, by simp [intOf]; omega⟩
          show _ = _
          rw [List.take_succ_eq_append_getElem hlt, List.take_succ_eq_append_getElem hlt2, HX.out, HY.out, HE.out, hno.out]
        · have he2 : ((l[i] : Int) != (m[i] : Int)) = true := by rw [bne_iff_ne]; omega
          have hd : decide (l = m) = false := by
            rw [decide_eq_false_iff_not]
            rintro rfl
            exact he rfl
          have HD := Lib.hid hd
          clear he hlen2 hlen3 hd
          generalize l[i] = x at *
          generalize m[i] = y at *
          go_wp2_with fail
          go_quiet (fail)
          go_wp2_with fail
          go_ret
          exact ⟨ret_bool HD.out.symm, _, World.drewN_drewN _ _ _⟩
      · have hd : decide (l = m) = true := by
          rw [decide_eq_true_eq]
          have := hno.out
          rwa [List.take_of_length_le (by omega), List.take_of_length_le (by have := HL.out; omega)] at this
        have HD := Lib.hid hd
        clear hd
        go_wp2_with fail
        go_ret
        exact ⟨ret_bool HD.out.symm, _, rfl⟩
  · have hlen3 : ((l.length : Int) != (m.length : Int)) = true := by rw [bne_iff_ne]; omega
    have hd : decide (l = m) = false := by
      rw [decide_eq_false_iff_not]
      rintro rfl
      exact hlen rfl
    have HD := Lib.hid hd
    clear hd hlen
    go_enter Try.func51, Try.ntmps51
    go_wp2_with fail
    go_ret
    exact ⟨ret_bool HD.out.symm, 0, rfl⟩

theorem ids_any (v : Value) (l : QL) (w : World) (h : P64 w v l) (hl : l.length ≤ 1048576) : Calls Try.prog 83 #[v] w fun e w' =>
    ∃ r, e = .returned r ∧ New64 w w' r (l.map (·.1)) ∧ Keep No w w' := by
  obtain ⟨A, c, rfl, -⟩ := Sl.shape h
  have H := Lib.hid h
  clear h
  go_enter Try.func83, Try.ntmps83
  go_wp2_with fail
  go_loopw [2, 7] (fun ov iv wr => ∃ i A2 k, i ≤ l.length ∧ iv = .int .i64 (i : Nat) ∧ ov = .slice A2 ((l.take i).map (·.1)).length k ∧
    wr.ownsRow 0 29 1 (.slice A2 ((l.take i).map (·.1)).length k) ((l.take i).map (·.1)).length (((l.take i).map (·.1)).map u64v) ∧ (∀ b, (Value.slice A2 ((l.take i).map (·.1)).length k).ownBlock = some b → w.heap.size ≤ b) ∧ Keep No w wr) (fun _ iv _ => l.length - (intOf iv).toNat)
  case atStart => exact ⟨0, none, 0, Nat.zero_le _, rfl, rfl, World.ownsRow_nil _ _ _ _, fun b hb => by simp [Value.ownBlock] at hb, Keep.refl _ _⟩
  case round =>
    obtain ⟨i, A2, k, hi, rfl, rfl, ho, hA, hk⟩ := hrel
    have hlen : ((l.take i).map (·.1)).length ≤ l.length := by simp; omega
    by_cases hlt : i < l.length
    · obtain ⟨b, o, c', hv, hc', hc1, hc2⟩ := (H.out.keep hk).at_ i hlt
      injection hv with hAA _ hcc
      subst hAA hcc
      have htk : (l.take (i + 1)).map (·.1) = (l.take i).map (·.1) ++ [l[i].1] := by rw [List.take_succ_eq_append_getElem hlt, List.map_append]; rfl
      have HT := Lib.hid htk
      clear htk
      generalize hL : (l.take i).map (·.1) = L at *
      have HLL := Lib.hid hL
      clear hL
      generalize l[i].1 = x at *
      generalize l[i].2 = y at *
      have hwn : ((wr.alloc (.cells #[.int .u64 (x : Nat), .int .u64 (y : Nat)] 160)).alloc (.cells #[.int .u64 (x : Nat)] 29)).ownsRow 0 29 1 (.slice A2 L.length k) L.length (L.map u64v) := (ho.alloc _).alloc _
      have hso : Sl ((wr.alloc (.cells #[.int .u64 (x : Nat), .int .u64 (y : Nat)] 160)).alloc (.cells #[.int .u64 (x : Nat)] 29)) (.slice (some ⟨(wr.alloc (.cells #[.int .u64 (x : Nat), .int .u64 (y : Nat)] 160)).heap.size, 0, none⟩) 1 1) 1 ([x].map u64v) := Sl.lit _ _ 29 1
      have hone := u64v_one [x]
      have h63 : L.length + 1 ≤ maxLen := by simp only [maxLen]; omega
      have kn : Keep No w ((wr.alloc (.cells #[.int .u64 (x : Nat), .int .u64 (y : Nat)] 160)).alloc (.cells #[.int .u64 (x : Nat)] 29)) := (hk.alloc _).alloc _
      rw [World.size_alloc] at hso
      go_wp2_with (at_builtin; refine wpList_app rfl _ _ 41 rfl 29 _ 1 8 Try.underlying41 Try.info29 rfl (by decide) _ L.length _ hwn rfl _ 1 ([x].map u64v) hso rfl rfl hone (by omega) h63 ?_; intro A' k' w' ho' hk' hn')
      refine ⟨⟨i + 1, A', k', by omega, by simp, by rw [HT.out]; simp, ?_, ?_, kn.fresh hk' hA⟩, by simp [intOf]; omega⟩
      · rw [HT.out, List.length_append, List.map_append]; exact ho'
      · intro b hb
        rw [HT.out, List.length_append] at hb
        rcases hn' b hb with e | e
        · exact hA b e
        · have := kn.size; omega
    · obtain rfl : i = l.length := by omega
      rw [List.take_length] at ho hA ⊢
      go_wp2_with fail
      go_ret
      exact ⟨.slice A2 l.length k, rfl, ⟨A2, k, by rw [List.length_map], ho, hA⟩, hk⟩
end Go.Proofs.Ytimdaioojnohmaa

namespace Go.Proofs.Ytimdaioojnohmaa
open Go.RowKit

/-- A queue of the program at block g; all of it lies from block B on. -/
def QAt (B : Nat) (w : World) (g most pat : Nat) (l : QL) : Prop :=
  ∃ A k, w.heap[g]? = some (.cells #[.int .i64 most, .int .u64 pat, .slice A l.length k] 116 (0, 0)) ∧ w.ownsRow 0 160 2 (.slice A l.length k) l.length (l.flatMap qcells) ∧
    B ≤ g ∧ (∀ b, (Value.slice A l.length k).ownBlock = some b → B ≤ b) ∧ most ≤ 64 ∧ l.length ≤ 64 ∧ pat < 18446744073709551616
/-- What a queue's calls may write. -/
def TQ (B : Nat) : Nat → Option TypeId → Prop := fun k s => B ≤ k ∧ (s = some 116 ∨ s = some 160)

theorem QAt.keep {B : Nat} {w w' : World} {g most pat : Nat} {l : QL} {T : Nat → Option TypeId → Prop} (h : QAt B w g most pat l) (hk : KeepZ T w w') (hT : ∀ k, ¬ T k (some 116) ∧ ¬ T k (some 160)) : QAt B w' g most pat l := by
  obtain ⟨A, k, hb, ho, r⟩ := h
  exact ⟨A, k, hk.blk hb (hT g).1, hk.row ho (fun i _ => (hT i).2), r⟩
theorem QAt.no {B : Nat} {w w' : World} {g most pat : Nat} {l : QL} (h : QAt B w g most pat l) (hk : Keep No w w') : QAt B w' g most pat l :=
  h.keep (T := fun _ _ => False) (KeepZ.of hk) (fun _ => ⟨id, id⟩)

theorem qnone_nil (w : World) : Calls Try.prog 80 #[.pointer none] w fun e w' => e = .returned (.bool true) ∧ w = w' := by
  go_enter Try.func80, Try.ntmps80
  go_wp2_with fail
  go_ret
  exact ⟨rfl, rfl⟩
theorem qnone_any (B g most pat : Nat) (l : QL) (w : World) (h : QAt B w g most pat l) : Calls Try.prog 80 #[.pointer (some ⟨g, 0, none⟩)] w fun e w' => e = .returned (.bool (decide (most = 0))) ∧ w = w' := by
  obtain ⟨A, k, hb, ho, hg, hA, hm, hl, hp⟩ := h
  have c0 := (blk_cell hb 0).trans rfl
  clear hb ho hA hg hp
  by_cases h0 : most = 0
  · subst h0
    go_enter Try.func80, Try.ntmps80
    go_wp2_with fail
    go_ret
    exact ⟨rfl, rfl⟩
  · have h1 : ((most : Int) == 0) = false := beq_eq_false_iff_ne.2 (by omega)
    have HD := Lib.hid (decide_eq_false h0)
    clear h0
    go_enter Try.func80, Try.ntmps80
    go_wp2_with fail
    go_ret
    exact ⟨ret_bool HD.out.symm, rfl⟩

theorem qall_any (B g most pat : Nat) (l : QL) (w : World) (h : QAt B w g most pat l) : Calls Try.prog 43 #[.pointer (some ⟨g, 0, none⟩)] w fun e w' => ∃ r, e = .returned r ∧ New64 w w' r (l.map (·.1)) ∧ Keep No w w' := by
  obtain ⟨A, k, hb, ho, hg, hA, hm, hl, hp⟩ := h
  have c2 := (blk_cell hb 2).trans rfl
  have hi := ids_any _ l w (Sl.of_own ho) (by omega)
  clear hb ho hA hg hp
  go_enter Try.func43, Try.ntmps43
  go_wp2_with fail
  refine hi.mono ?_
  rintro e w' ⟨r, rfl, hr, hk⟩
  go_wp2_with fail
  go_ret
  exact ⟨_, rfl, hr, hk⟩
theorem qall_nil (w : World) : Calls Try.prog 43 #[.pointer none] w fun e w' => e = .returned (.slice none 0 0) ∧ w = w' := by
  go_enter Try.func43, Try.ntmps43
  go_wp2_with fail
  go_ret
  exact ⟨rfl, rfl⟩
theorem qlen_any (B g most pat : Nat) (l : QL) (w : World) (h : QAt B w g most pat l) : Calls Try.prog 53 #[.pointer (some ⟨g, 0, none⟩)] w fun e w' => e = .returned (.int .i64 (l.length : Nat)) ∧ Keep No w w' := by
  have hi := qall_any B g most pat l w h
  clear h
  go_enter Try.func53, Try.ntmps53
  go_wp2_with fail
  refine hi.mono ?_
  rintro e w' ⟨r, rfl, hr, hk⟩
  obtain ⟨A, k, rfl, -, -⟩ := hr
  go_wp2_with fail
  go_ret
  exact ⟨ret_int rfl, hk⟩
theorem mem_ids (l : QL) (id : Nat) : decide (id ∈ l.map (·.1)) = qhas l id := by
  rw [Bool.eq_iff_iff, decide_eq_true_eq]
  unfold qhas
  rw [List.any_eq_true, List.mem_map]
  simp
theorem qhas_any (B g most pat id : Nat) (l : QL) (w : World) (h : QAt B w g most pat l) : Calls Try.prog 54 #[.pointer (some ⟨g, 0, none⟩), .int .u64 id] w fun e w' => e = .returned (.bool (qhas l id)) ∧ Keep No w w' := by
  have hi := qall_any B g most pat l w h
  have hl : l.length ≤ 64 := by obtain ⟨A, k, hb, ho, hg, hA, hm, hl, hp⟩ := h; exact hl
  clear h
  go_enter Try.func54, Try.ntmps54
  go_wp2_with fail
  refine hi.mono ?_
  rintro e w' ⟨r, rfl, hr, hk⟩
  have hc := contains_any r _ id w' hr.n64 (by rw [List.length_map]; omega)
  rw [mem_ids] at hc
  clear hr
  go_wp2_with fail
  refine hc.mono ?_
  rintro e w2 ⟨rfl, rfl⟩
  go_wp2_with fail
  go_ret
  exact ⟨rfl, hk⟩

theorem qput_any (B g most pat id now : Nat) (l : QL) (w : World) (h : QAt B w g most pat l) (h0 : 0 < most) (_hBw : B ≤ w.heap.size) :
    Calls Try.prog 44 #[.pointer (some ⟨g, 0, none⟩), .int .u64 id, .int .u64 now] w fun e w' => e = .returned (.int .i64 ((qput most l id now).1 : Nat)) ∧ QAt B w' g most pat (qput most l id now).2 ∧ KeepZ (TQ B) w w' := by
  have hn := qnone_any B g most pat l w h
  rw [decide_eq_false (by omega)] at hn
  have hh := qhas_any B g most pat id l w h
  have HQ := Lib.hid h
  have HN := Lib.hid hn
  clear hn
  unfold qput
  by_cases hhas : qhas l id = true
  · rw [if_pos hhas]
    rw [hhas] at hh
    have HH := Lib.hid hh
    clear hh hhas h
    go_enter Try.func44, Try.ntmps44
    go_wp2_with fail
    refine HN.out.mono ?_
    rintro e w1 ⟨rfl, rfl⟩
    go_wp2_with fail
    refine HH.out.mono ?_
    rintro e w1 ⟨rfl, hk⟩
    go_wp2_with fail
    go_ret
    exact ⟨rfl, HQ.out.no hk, KeepZ.of hk⟩
  · rw [if_neg hhas]
    rw [Bool.not_eq_true] at hhas
    rw [hhas] at hh
    have HH := Lib.hid hh
    clear hh hhas
    by_cases hfull : most ≤ l.length
    · rw [if_pos hfull]
      clear h
      go_enter Try.func44, Try.ntmps44
      go_wp2_with fail
      refine HN.out.mono ?_
      rintro e w1 ⟨rfl, rfl⟩
      go_wp2_with fail
      refine HH.out.mono ?_
      rintro e w1 ⟨rfl, hk⟩
      have hq1 := HQ.out.no hk
      have HQ1 := Lib.hid hq1
      obtain ⟨A, k, hb, ho, hg, hA, hm, hl, hp⟩ := hq1
      have c0 := (blk_cell hb 0).trans rfl
      have c2 := (blk_cell hb 2).trans rfl
      have hd : decide ((most : Int) ≤ (l.length : Int)) = true := by simp; omega
      clear hb ho hA hg hp
      go_wp2_with fail
      go_quiet (fail)
      go_wp2_with fail
      go_ret
      exact ⟨rfl, HQ1.out.no ((Keep.refl _ _).drewN _), (KeepZ.of hk).drewN _⟩
    · rw [if_neg hfull]
      clear h
      have hfl : l.length < most := by omega
      clear hfull
      go_enter Try.func44, Try.ntmps44
      go_wp2_with fail
      refine HN.out.mono ?_
      rintro e w1 ⟨rfl, rfl⟩
      go_wp2_with fail
      refine HH.out.mono ?_
      rintro e w1 ⟨rfl, hk⟩
      obtain ⟨A, k, hb, ho, hg, hA, hm, hl, hp⟩ := HQ.out.no hk
      have c0 := (blk_cell hb 0).trans rfl
      have c2 := (blk_cell hb 2).trans rfl
      have hd : decide ((most : Int) ≤ (l.length : Int)) = false := by simp; omega
      have HB := Lib.hid hb
      clear hb
      go_wp2_with fail
      go_quiet (fail)
      have hbq : (w1.drewN nq).heap[g]? = some (.cells #[.int .i64 most, .int .u64 pat, .slice A l.length k] 116 (0, 0)) := HB.out
      have hoq : (w1.drewN nq).ownsRow 0 160 2 (.slice A l.length k) l.length (l.flatMap qcells) := ho
      have hkq : Keep No w (w1.drewN nq) := hk.drewN nq
      clear HB c0 c2 ho
      generalize w1.drewN nq = w2 at *
      have c2 := (blk_cell hbq 2).trans rfl
      have HB := Lib.hid hbq
      have hgs : g < w2.heap.size := lt_of_block hbq
      clear hbq
      have hwn : (w2.alloc (.cells #[.int .u64 (id : Nat), .int .u64 (now : Nat)] 160)).ownsRow 0 160 2 (.slice A l.length k) l.length (l.flatMap qcells) := hoq.alloc _
      have hso : Sl (w2.alloc (.cells #[.int .u64 (id : Nat), .int .u64 (now : Nat)] 160)) (.slice (some ⟨w2.heap.size, 0, none⟩) 1 1) 1 (qcells (id, now)) := Sl.lit _ _ 160 1
      have hone := qcells_one (id, now)
      have h63 : l.length + 1 ≤ maxLen := by simp only [maxLen]; omega
      have hne : ∀ b, (Value.slice A l.length k).ownBlock = some b → g ≠ b := fun b hb => by obtain ⟨cur, hcur⟩ := own_blk hoq hb; exact blk_ne HB.out hcur (by decide)
      have hKB : ∀ A' k' w', w'.ownsRow 0 160 2 (.slice A' (l.length + 1) k') (l.length + 1) (l.flatMap qcells ++ qcells (id, now)) → Keep (Own (.slice A l.length k)) (w2.alloc (.cells #[.int .u64 (id : Nat), .int .u64 (now : Nat)] 160)) w' →
          w'.heap[g]? = some (.cells #[.int .i64 most, .int .u64 pat, .slice A l.length k] 116 (0, 0)) := fun A' k' w' _ hk' => hk'.blk (blk_old HB.out _) (fun e => hne g e rfl)
      go_wp2_with (at_builtin; refine wpList_app rfl _ _ 114 rfl 160 _ 2 16 Try.underlying114 Try.info160 rfl (by decide) _ l.length _ hwn rfl _ 1 (qcells (id, now)) hso rfl rfl hone (by omega) h63 ?_; intro A' k' w' ho' hk' hn'; have hb' := hKB A' k' w' ho' hk'; have fr := blk_free hb' 2; have cc := (blk_cell hb' 2).trans rfl; have HB' := Lib.hid hb'; clear hb')
      go_ret
      have hzz : KeepZ (TQ B) w w' := ((KeepZ.of hkq).alloc _).own hwn hk' (fun i hi => ⟨hA i hi, .inr rfl⟩)
      refine ⟨rfl, ⟨A', k', ?_, ?_, hg, ?_, hm, by rw [List.length_append]; simp; omega, hp⟩, hzz.setCell HB'.out ⟨hg, .inl rfl⟩ _⟩
      · rw [List.length_append]; exact blk_set HB'.out 2 _
      · rw [List.length_append, flat_snoc]
        refine ownsRow_setCell_other ho' (fun e => ?_) _
        obtain ⟨cur, hcur⟩ := own_blk ho' e
        exact blk_ne HB'.out hcur (by decide) rfl
      · intro b hb
        rw [List.length_append] at hb
        rcases hn' b hb with e | e
        · exact hA b e
        · have := hkq.size
          simp at e
          omega
end Go.Proofs.Ytimdaioojnohmaa
