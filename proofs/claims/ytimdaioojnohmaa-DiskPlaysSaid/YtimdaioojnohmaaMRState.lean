/-
  The document's disk: State 30.
  The document's disk: Open 26.
-/
import Derived.Test.YtimdaioojnohmaaMRFlushes
import Derived.Test.YtimdaioojnohmaaMDState
import Derived.Test.YtimdaioojnohmaaMDOut
namespace Go.Proofs.Ytimdaioojnohmaa
open Go.RowKit Go.Maps
section
variable {X : Nat → Prop} {B hi : Nat} {w w' : World} {g qb : Nat} {D : DD} {C T : Value} {vs : Nat → RV} {lo : Nat → Nat}
theorem RowIn.at_ {w : World} {e : TypeId} {lo hi n : Nat} {v : Value} {cs : List Value} (h : RowIn w e 1 lo hi n v cs) (i : Nat) (hi : i < n) : ∃ b k, v = .slice (some ⟨b, 0, none⟩) n k ∧ n ≤ k ∧ (∃ cur, w.heap[b]? = some (.cells cur e (0, 0))) ∧ ∀ u, cs[i]? = some u → w.cell? ⟨b, i, none⟩ = some u := by
  obtain ⟨b, k, hv, hk, -, -, hcur, hc⟩ := h.shape (by omega)
  exact ⟨b, k, hv, hk, hcur, fun u hu => hc i u hu⟩
theorem rkind2 (t : DTask) : rkind t = 2 ↔ t.write = false ∧ t.parts ≠ [] := by
  unfold rkind
  cases t.write <;> cases h : t.parts <;> simp
set_option maxRecDepth 100000 in
set_option maxHeartbeats 4000000 in
theorem rstate_any (id : Nat) (h : RD X B hi w g D qb C T vs lo) (few : D.ts.length ≤ 1048576) (hid : id < 18446744073709551616) (hsm : DSm D) :
    Calls Try.prog 30 #[.pointer (some ⟨g, 0, none⟩), .int .u64 (id : Nat)] w fun e w' => e = .returned (.tuple #[.int .i64 ((dstate D id).1 : Nat), .string (dstate D id).2]) ∧ Keep No w w' := by
  have c4 := h.cells.2.2.2.2
  by_cases hno : id = 0 ∨ D.ts.length < id
  · rw [dstate_no D id hno]
    obtain ⟨A, k, rfl, -, -⟩ := h.t
    have hw := IntWalk.u64_in (D.ts.length : Int) (by omega)
    clear h hsm
    by_cases h0 : id = 0
    · subst h0
      go_enter Try.func30, Try.ntmps30
      go_wp2_with fail
      go_ret2
      exact ⟨rfl, Keep.refl _ _⟩
    · have e1 : decide ((id : Int) < 1) = false := by simp; omega
      have e2 : D.ts.length < id := by omega
      clear hno h0
      go_enter Try.func30, Try.ntmps30
      go_wp2_with fail
      go_ret2
      exact ⟨rfl, Keep.refl _ _⟩
  · obtain ⟨n, rfl⟩ : ∃ n, id = n + 1 := ⟨id - 1, by omega⟩
    have hnl : n < D.ts.length := by omega
    rw [dstate_yes D n hnl, ← getD_at D.ts n hnl]
    obtain ⟨b, kk, rfl, hlk, -, -, hcell⟩ := h.row (by omega)
    have t0 := hcell n hnl 0 _ (by omega) rfl
    have t1 := hcell n hnl 1 _ (by omega) rfl
    have t2 := hcell n hnl 2 _ (by omega) rfl
    have t3 := hcell n hnl 3 _ (by omega) rfl
    have t4 := hcell n hnl 4 _ (by omega) rfl
    have t5 := hcell n hnl 5 _ (by omega) rfl
    have hT := h.ts n hnl
    have hsm' := hsm D.ts[n] (List.getElem_mem hnl)
    rw [← getD_at D.ts n hnl] at hsm'
    have hw := IntWalk.u64_in (D.ts.length : Int) (by omega)
    have e1 : decide (((n : Int) + 1) < 1) = false := by simp; omega
    have e2 : decide ((D.ts.length : Int) < ((n : Int) + 1)) = false := by simp; omega
    clear h hcell hsm hno hid
    generalize D.ts.getD n default = t at *
    generalize vs n = v at *
    obtain ⟨p, t', s, f⟩ := v
    simp only [Nat.add_zero] at t0 t1 t2 t3 t4 t5
    generalize hrk : rkind t = rk at *
    obtain ⟨parts, wr0, wants, st⟩ := t
    simp only at hsm' t5 ⊢
    obtain ⟨⟨A8, k8, rfl, -, -⟩, ⟨A4, k4, rfl, -, -⟩, ⟨A9, k9, rfl, ho9, -⟩, ⟨⟨A29, k29, rfl, -⟩, -⟩⟩ := hT
    simp only at ho9 t1 t2 t3 t4
    have HO := Lib.hid ho9
    clear ho9
    by_cases hcond : rk = 2 ∧ st = 2
    · obtain ⟨rfl, rfl⟩ := hcond
      obtain ⟨hw0, -⟩ := (rkind2 _).1 hrk
      simp only at hw0
      subst hw0
      rw [if_neg (by simp)]
      have hlen : parts.length ≤ 64 := hsm'.1
      have HSZ : Hid (∀ p ∈ parts, p.got.size ≤ 1048576) := fun p hp => (hsm'.2 p hp).1
      clear hsm' hrk
      go_enter Try.func30, Try.ntmps30
      go_wp2_with fail
      go_loopw [7, 8] (fun sv iv wr => ∃ i, i ≤ parts.length ∧ iv = .int .i64 (i : Nat) ∧ sv = .string (gotOf (parts.take i)) ∧ Hid (Keep No w wr) ∧ Hid (wr.heap[w.heap.size]? = some (.cells #[.int .i64 2, .slice A8 parts.length k8, .slice A4 parts.length k4, .slice A9 parts.length k9, .slice A29 wants.length k29, .int .i64 2] 149 (0, 0)))) (fun _ iv _ => parts.length - (intOf iv).toNat)
      case atStart => exact ⟨0, Nat.zero_le _, rfl, rfl, by show Keep _ _ _; exact (Keep.refl _ _).alloc _, by show _ = _; exact blk_at _ _ rfl⟩
      case round =>
        obtain ⟨i, hi', rfl, rfl, hk, hblk⟩ := hrel
        have d0 := (blk_cell hblk.out 0).trans rfl
        have d3 := (blk_cell hblk.out 3).trans rfl
        have d5 := (blk_cell hblk.out 5).trans rfl
        by_cases hlt : i < parts.length
        · obtain ⟨b9, o9, c9, hv, hc9, hcl⟩ := (Sl.of_own HO.out).some (by omega)
          injection hv with hA _ hcc
          subst hA hcc
          have hcell := hcl i (.string parts[i].got) (by simp only [List.getElem?_map, List.getElem?_eq_getElem hlt, Option.map_some]; rfl)
          have hcell := hk.out.cellSome hcell (fun h => h)
          have hsn : gotOf (parts.take (i + 1)) = gotOf (parts.take i) ++ parts[i].got := by rw [List.take_succ_eq_append_getElem hlt, gotOf_snoc]
          have HSN := Lib.hid hsn
          have hb1 := gotOf_size (parts.take (i + 1)) (fun p hp => HSZ.out p (List.mem_of_mem_take hp))
          rw [List.length_take, Nat.min_eq_left (by omega), hsn, ByteArray.size_append] at hb1
          have hb2 : (gotOf (parts.take i)).size + parts[i].got.size ≤ 67108864 := by omega
          clear hsn hcl hb1
          generalize parts[i].got = q at *
          generalize gotOf (parts.take i) = G at *
          go_wp2_with fail
          exact ⟨⟨i + 1, by omega, by simp, by rw [HSN.out], hk, hblk⟩, by simp [intOf]; omega⟩
        · obtain rfl : i = parts.length := by omega
          rw [List.take_length]
          go_wp2_with fail
          go_ret2
          exact ⟨rfl, hk.out⟩
    · have hres : (if wr0 = true ∨ st ≠ 2 then (st, ByteArray.empty) else (st, gotOf parts)) = (st, ByteArray.empty) := by
        by_cases hc : wr0 = true ∨ st ≠ 2
        · rw [if_pos hc]
        · rw [if_neg hc]
          have : parts = [] := by
            apply Classical.byContradiction
            intro hp
            refine hcond ⟨?_, by omega⟩
            rw [← hrk, rkind2]
            exact ⟨by simpa using fun e => hc (.inl e), hp⟩
          rw [this]
          rfl
      rw [hres]
      clear hres hrk hsm'
      go_enter Try.func30, Try.ntmps30
      go_wp2_with fail
      go_loopw [7, 8] (fun sv iv wr => iv = .int .i64 (0 : Nat) ∧ sv = .string ByteArray.empty ∧ Hid (Keep No w wr) ∧ Hid (wr.heap[w.heap.size]? = some (.cells #[.int .i64 (rk : Nat), .slice A8 parts.length k8, .slice A4 parts.length k4, .slice A9 parts.length k9, .slice A29 wants.length k29, .int .i64 (st : Nat)] 149 (0, 0)))) (fun _ iv _ => 0)
      case atStart => exact ⟨rfl, rfl, by show Keep _ _ _; exact (Keep.refl _ _).alloc _, by show _ = _; exact blk_at _ _ rfl⟩
      case round =>
        obtain ⟨rfl, rfl, hk, hblk⟩ := hrel
        have d0 := (blk_cell hblk.out 0).trans rfl
        have d3 := (blk_cell hblk.out 3).trans rfl
        have d5 := (blk_cell hblk.out 5).trans rfl
        by_cases hp0 : parts.length = 0
        · rw [hp0] at d3
          clear hcond
          go_wp2_with fail
          go_ret2
          exact ⟨rfl, hk.out⟩
        · by_cases hr2 : rk = 2
          · have hs2 : ((st : Int) == 2) = false := beq_eq_false_iff_ne.2 (by omega)
            subst hr2
            clear hcond
            go_wp2_with fail
            go_ret2
            exact ⟨rfl, hk.out⟩
          · have hs2 : ((rk : Int) == 2) = false := beq_eq_false_iff_ne.2 (by omega)
            clear hcond
            go_wp2_with fail
            go_ret2
            exact ⟨rfl, hk.out⟩
end
end Go.Proofs.Ytimdaioojnohmaa

namespace Go.Proofs.Ytimdaioojnohmaa
open Go.RowKit Go.Maps
/-- Asks of the document's in memory. -/
def N137 (w : World) (v : Value) (l : List DPart) : Prop := Sl w v l.length (l.flatMap acells)
section
variable {X : Nat → Prop} {B hi : Nat} {w w' : World} {g qb : Nat} {D : DD} {C T : Value} {vs : Nat → RV} {lo : Nat → Nat}
theorem RowIn.ask {w : World} {lo hi n : Nat} {v : Value} {l : List DPart} (h : RowIn w 137 7 lo hi n v (l.flatMap acells)) (hn : n = l.length) (k : Nat) (hk : k < l.length) : ∃ b c, v = .slice (some ⟨b, 0, none⟩) n c ∧ n ≤ c ∧
    w.cell? ⟨b, k * 7, none⟩ = some (.int .u64 (l[k].task : Nat)) ∧ w.cell? ⟨b, k * 7 + 1, none⟩ = some (.int .i64 (l[k].ix : Nat)) ∧ w.cell? ⟨b, k * 7 + 2, none⟩ = some (.int .u64 (l[k].chunk : Nat)) ∧
    w.cell? ⟨b, k * 7 + 3, none⟩ = some (.int .u32 (l[k].frm : Nat)) ∧ w.cell? ⟨b, k * 7 + 4, none⟩ = some (.int .u32 (l[k].cnt : Nat)) ∧ w.cell? ⟨b, k * 7 + 5, none⟩ = some (.bool l[k].write) ∧ w.cell? ⟨b, k * 7 + 6, none⟩ = some (.string l[k].data) := by
  subst hn
  obtain ⟨b, c, hv, hc, -, -, -, hcell⟩ := h.shape (by omega)
  have key : ∀ j u, j < 7 → (acells l[k])[j]? = some u → w.cell? ⟨b, k * 7 + j, none⟩ = some u := fun j u hj hu => hcell _ _ (by rw [flat_get acells 7 acells_len l k j hk hj]; exact hu)
  exact ⟨b, c, hv, hc, key 0 _ (by omega) rfl, key 1 _ (by omega) rfl, key 2 _ (by omega) rfl, key 3 _ (by omega) rfl, key 4 _ (by omega) rfl, key 5 _ (by omega) rfl, key 6 _ (by omega) rfl⟩
set_option maxRecDepth 100000 in
set_option maxHeartbeats 4000000 in
theorem ropen_any (h : RD X B hi w g D qb C T vs lo) (few : D.ts.length ≤ 1048576) (hsm : DSm D) :
    Calls Try.prog 26 #[.pointer (some ⟨g, 0, none⟩)] w fun e w' => ∃ v, e = .returned v ∧ N137 w' v (dopen D) ∧ Keep No w w' := by
  have c4 := h.cells.2.2.2.2
  obtain ⟨AT, kT, rfl, -, -⟩ := h.t
  have H := Lib.hid h
  have hsm64 := hsm.at_
  rw [dopen_out, ← waitsTo_all]
  clear h hsm
  go_enter Try.func26, Try.ntmps26
  go_wp2_with fail
  go_loopw [3, 4] (fun ov iv wr => ∃ i out A k, i ≤ D.ts.length ∧ iv = .int .i64 (i : Nat) ∧ ov = .slice A out.length k ∧ Hid (out = outOf D.ts (waitsTo D.ts (fun _ => true) i)) ∧ Hid (wr.ownsRow 0 137 7 (.slice A out.length k) out.length (out.flatMap acells)) ∧
    Hid (∀ b, (Value.slice A out.length k).ownBlock = some b → w.heap.size ≤ b) ∧ Hid (Keep No w wr) ∧ out.length ≤ i * 64) (fun _ iv _ => D.ts.length - (intOf iv).toNat)
  case atStart => exact ⟨0, [], none, 0, Nat.zero_le _, rfl, rfl, rfl, World.ownsRow_nil _ _ _ _, fun b hb => by simp [Value.ownBlock] at hb, Keep.refl _ _, by simp⟩
  case round =>
    obtain ⟨i, out, A, k, hi', rfl, rfl, hout, ho, hA, hk, hl⟩ := hrel
    have d4 := hk.out.cellSome c4 (fun h => h)
    by_cases hlt : i < D.ts.length
    · obtain ⟨b, kk, hv, hlk, -, -, hcell⟩ := H.out.row (by omega)
      injection hv with hAA _ hcc
      subst hAA hcc
      have t1 := hcell i hlt 1 _ (by omega) rfl
      have t2 := hcell i hlt 2 _ (by omega) rfl
      have t5 := hcell i hlt 5 _ (by omega) rfl
      obtain ⟨hp, ht, -, -⟩ := H.out.ts i hlt
      have h64 := hsm64 i
      have hg := getD_at D.ts i hlt
      by_cases hs : (D.ts.getD i default).state = 1
      · have HW := Lib.hid (waitsTo_hit D.ts (fun _ => true) i hlt (by rw [← hg]; exact hs) rfl)
        have HS := Lib.hid (outOf_snoc D.ts (waitsTo D.ts (fun _ => true) i) (i + 1))
        rw [← HW.out, ← hout.out, Nat.add_sub_cancel] at HS
        rw [hs] at t5
        clear hcell hs hg
        generalize (D.ts.getD i default).parts = parts at *
        generalize (vs i) = v at *
        obtain ⟨v1, v2, v3, v4⟩ := v
        simp only at t1 t2 hp ht
        have HP := Lib.hid hp
        have HT := Lib.hid ht
        obtain ⟨Ap, kp, rfl, -, -⟩ := hp
        obtain ⟨At, kt, rfl, -, -⟩ := ht
        go_wp2_with fail
        go_loopw [3, 5] (fun ov jv wr => ∃ j o2 A k, j ≤ parts.length ∧ jv = .int .i64 (j : Nat) ∧ ov = .slice A o2.length k ∧ Hid (o2 = out ++ untold (parts.take j)) ∧ Hid (wr.ownsRow 0 137 7 (.slice A o2.length k) o2.length (o2.flatMap acells)) ∧
          Hid (∀ b, (Value.slice A o2.length k).ownBlock = some b → w.heap.size ≤ b) ∧ Hid (Keep No w wr) ∧ o2.length ≤ i * 64 + j) (fun _ jv _ => parts.length - (intOf jv).toNat)
        case atStart => exact ⟨0, out, A, k, Nat.zero_le _, rfl, rfl, by show _ = _; simp [untold], ho, hA, hk, by omega⟩
        case round =>
          obtain ⟨j, o2, A2, k2, hj', rfl, rfl, ho2, hr2, hA2, hk2, hl2⟩ := hrel
          have d4 := hk2.out.cellSome c4 (fun h => h)
          have d1 := hk2.out.cellSome t1 (fun h => h)
          have d2 := hk2.out.cellSome t2 (fun h => h)
          have d5 := hk2.out.cellSome t5 (fun h => h)
          by_cases hj : j < parts.length
          · obtain ⟨bp, cp, hvp, hcp, x0, x1, x2, x3, x4, x5, x6⟩ := HP.out.ask rfl j hj
            injection hvp with hA3 _ hc3
            subst hA3 hc3
            obtain ⟨bt, ct, hvt, hct, -, hcl⟩ := HT.out.at_ j hj
            injection hvt with hA4 _ hc4
            subst hA4 hc4
            have y := hcl (.bool parts[j].told) (by simp only [List.getElem?_map, List.getElem?_eq_getElem hj, Option.map_some]; rfl)
            have y := hk2.out.cellSome y (fun h => h)
            have x0 := hk2.out.cellSome x0 (fun h => h)
            have x1 := hk2.out.cellSome x1 (fun h => h)
            have x2 := hk2.out.cellSome x2 (fun h => h)
            have x3 := hk2.out.cellSome x3 (fun h => h)
            have x4 := hk2.out.cellSome x4 (fun h => h)
            have x5 := hk2.out.cellSome x5 (fun h => h)
            have x6 := hk2.out.cellSome x6 (fun h => h)
            have hhit := untold_hit parts j hj
            have hmiss := untold_miss parts j hj
            have hlen : parts.length ≤ 64 := h64
            clear hcl
            generalize parts[j] = p at *
            obtain ⟨q0, q1, q2, q3, q4, q5, q6, q7, q8⟩ := p
            simp only at x0 x1 x2 x3 x4 x5 x6 y hhit hmiss
            cases q7
            · have HO2 : Hid (o2 ++ [⟨q0, q1, q2, q3, q4, q5, q6, false, q8⟩] = out ++ untold (parts.take (j + 1))) := by show _ = _; rw [ho2.out, hhit rfl, List.append_assoc]
              clear hhit hmiss
              have hwn : (wr.alloc (.cells #[.int .u64 (q0 : Nat), .int .i64 (q1 : Nat), .int .u64 (q2 : Nat), .int .u32 (q3 : Nat), .int .u32 (q4 : Nat), .bool q5, .string q6] 137)).ownsRow 0 137 7 (.slice A2 o2.length k2) o2.length (o2.flatMap acells) := hr2.out.alloc _
              have hso : Sl (wr.alloc (.cells #[.int .u64 (q0 : Nat), .int .i64 (q1 : Nat), .int .u64 (q2 : Nat), .int .u32 (q3 : Nat), .int .u32 (q4 : Nat), .bool q5, .string q6] 137)) (.slice (some ⟨wr.heap.size, 0, none⟩) 1 1) 1 (acells ⟨q0, q1, q2, q3, q4, q5, q6, false, q8⟩) := Sl.lit _ _ 137 1
              have hone := acells_one ⟨q0, q1, q2, q3, q4, q5, q6, false, q8⟩
              have h63 : o2.length + 1 ≤ maxLen := by simp only [maxLen]; omega
              have kn : Keep No w (wr.alloc (.cells #[.int .u64 (q0 : Nat), .int .i64 (q1 : Nat), .int .u64 (q2 : Nat), .int .u32 (q3 : Nat), .int .u32 (q4 : Nat), .bool q5, .string q6] 137)) := hk2.out.alloc _
              go_wp2_with (at_builtin; refine wpList_app rfl _ _ 55 rfl 137 _ 7 56 Try.underlying55 Try.info137 rfl (by decide) _ o2.length _ hwn rfl _ 1 (acells ⟨q0, q1, q2, q3, q4, q5, q6, false, q8⟩) hso rfl rfl hone (by omega) h63 ?_; intro A' k' w' ho' hk' hn')
              refine ⟨⟨j + 1, o2 ++ [⟨q0, q1, q2, q3, q4, q5, q6, false, q8⟩], A', k', by omega, by simp, by rw [List.length_append]; rfl, HO2, ?_, ?_, ?_, by rw [List.length_append]; simp; omega⟩, by simp [intOf]; omega⟩
              · show World.ownsRow _ _ _ _ _ _ _
                rw [List.length_append, List.flatMap_append]
                simpa using ho'
              · intro b hb
                rw [List.length_append] at hb
                rcases hn' b hb with e | e
                · exact hA2.out b e
                · have := kn.size; omega
              · exact kn.fresh hk' hA2.out
            · have HO2 : Hid (o2 = out ++ untold (parts.take (j + 1))) := by show _ = _; rw [ho2.out, hmiss rfl]
              clear hhit hmiss
              go_wp2_with fail
              exact ⟨⟨j + 1, o2, A2, k2, by omega, by simp, rfl, HO2, hr2, hA2, hk2, by omega⟩, by simp [intOf]; omega⟩
          · obtain rfl : j = parts.length := by omega
            have ho2' := ho2.out
            rw [List.take_length, ← HS.out] at ho2'
            have HO2 := Lib.hid ho2'
            clear ho2'
            go_wp2_with fail
            exact ⟨⟨i + 1, o2, A2, k2, by omega, by simp, rfl, HO2, hr2, hA2, hk2, by omega⟩, by simp [intOf]; omega⟩
      · have HW := Lib.hid (waitsTo_miss D.ts (fun _ => true) i hlt (fun e => hs (by rw [hg]; exact e.1)))
        have hs2 : (((D.ts.getD i default).state : Int) == 1) = false := beq_eq_false_iff_ne.2 (by omega)
        clear hcell hs hg h64 hp ht
        generalize (D.ts.getD i default).state = st at *
        have hv1 : ∃ A k, (vs i).p = .slice A (D.ts.getD i default).parts.length k := by
          obtain ⟨⟨A, k, e, -⟩, -⟩ := H.out.ts i hlt
          exact ⟨A, k, e⟩
        obtain ⟨Ap, kp, hv1⟩ := hv1
        rw [hv1] at t1
        clear hv1
        generalize (D.ts.getD i default).parts.length = np at *
        go_wp2_with fail
        go_loopw [3, 5] (fun ov jv w2 => ov = .slice A out.length k ∧ jv = .int .i64 (0 : Nat) ∧ w2 = wr) (fun _ _ _ => 0)
        case atStart => exact ⟨rfl, rfl, rfl⟩
        case round =>
          obtain ⟨rfl, rfl, rfl⟩ := hrel
          have d1 := hk.out.cellSome t1 (fun h => h)
          have d5 := hk.out.cellSome t5 (fun h => h)
          by_cases hz : np = 0
          · subst hz
            go_wp2_with fail
            exact ⟨⟨i + 1, out, A, k, by omega, by simp, rfl, by rw [HW.out]; exact hout, ho, hA, hk, by omega⟩, by simp [intOf]; omega⟩
          · go_wp2_with fail
            exact ⟨⟨i + 1, out, A, k, by omega, by simp, rfl, by rw [HW.out]; exact hout, ho, hA, hk, by omega⟩, by simp [intOf]; omega⟩
    · obtain rfl : i = D.ts.length := by omega
      go_wp2_with fail
      go_ret
      exact ⟨_, rfl, by rw [← hout.out]; exact Sl.of_own ho.out, hk.out⟩
end
end Go.Proofs.Ytimdaioojnohmaa
