/-
  (*Disk).Open walked.
-/
import Derived.Test.YtimdaioojnohmaaMDState
namespace Go.Proofs.Ytimdaioojnohmaa
open Go.RowKit Go.Maps
variable {X : Nat → Prop}

/-- Asks in memory, nobody else's, new since w0. -/
def A125 (w0 w : World) (v : Value) (l : List DPart) : Prop :=
  ∃ A k, v = .slice A l.length k ∧ w.ownsRow 0 125 7 (.slice A l.length k) l.length (l.flatMap acells) ∧ ∀ b, (Value.slice A l.length k).ownBlock = some b → w0.heap.size ≤ b
theorem A125.nil (w0 w : World) : A125 w0 w (.slice none 0 0) [] := ⟨none, 0, rfl, World.ownsRow_nil _ _ _ _, fun b hb => by simp [Value.ownBlock] at hb⟩
theorem A125.keep {w0 w w' : World} {v : Value} {l : List DPart} (h : A125 w0 w v l) (hk : Keep No w w') : A125 w0 w' v l := by
  obtain ⟨A, k, rfl, ho, hb⟩ := h
  exact ⟨A, k, rfl, own_keep ho hk (fun _ _ h => h), hb⟩
/-- New rows of asks may be written. -/
def TO (n : Nat) : Nat → Option TypeId → Prop := fun k s => n ≤ k ∧ s = some 125
theorem A125.alloc {w0 w : World} {v : Value} {l : List DPart} (h : A125 w0 w v l) (o : Obj) : A125 w0 (w.alloc o) v l := h.keep ((Keep.refl _ _).alloc o)
/-- One more. -/
theorem wpList_ask {w : World} {ops : Array Oper} {rest : List Oper} {o : Oper} {a : Act} {Q : Exit → Act → World → Prop} (hgd : o.guard = none) (ds sr : Operand)
    (ho : o.op = .call { callee := .builtin .append, args := #[ds, sr], argTypes := #[53, 53] }) (w0 w1 W : World) (A : Option Addr) (k : Nat) (l : List DPart) (p : DPart) (n z : Nat) (hz : z = W.heap.size) (hw : w = W.alloc (.cells (acells p).toArray 125)) (hn : n = l.length)
    (hown : A125 w0 W (.slice A n k) l) (hk0 : KeepZ (TO w0.heap.size) w1 W) (hsz : w0.heap.size ≤ w1.heap.size) (hv : a.eval ds = .slice A n k) (hx : a.eval sr = .slice (some ⟨z, 0, none⟩) 1 1) (hb : l.length ≤ 1073741824)
    (h : ∀ A' k' w', A125 w0 w' (.slice A' (n + 1) k') (l ++ [p]) → KeepZ (TO w0.heap.size) w1 w' → wpList Try.prog ops Q rest (a.put o.dst (.slice A' (n + 1) k')) w') : wpList Try.prog ops Q (o :: rest) a w := by
  subst hw hn hz
  obtain ⟨A1, k1, e, hown, hA⟩ := hown
  injection e with e1 _ e2
  subst e1 e2
  have hown2 := hown.alloc (.cells (acells p).toArray 125)
  refine wpList_app hgd ds sr 53 ho 125 _ 7 56 Try.underlying53 Try.info125 rfl (by decide) _ l.length _ hown2 hv _ 1 (acells p) (Sl.lit W (acells p).toArray 125 1) hx rfl (acells_one p) (by omega) (by simp only [maxLen]; omega) ?_
  intro A' k' w' ho' hk' hn'
  have k2 : KeepZ (TO w0.heap.size) w1 (W.alloc (.cells (acells p).toArray 125)) := hk0.alloc _
  refine h A' k' w' ⟨A', k', by simp, ?_, fun b hb => ?_⟩ (k2.own hown2 hk' (fun i hi => ⟨hA i hi, rfl⟩))
  · rw [List.length_append, List.flatMap_append]
    simpa using ho'
  · rw [List.length_append] at hb
    rcases hn' b hb with e | e
    · exact hA b e
    · have := k2.size; omega
def untold (l : List DPart) : List DPart := l.filter (fun p => !p.told)
theorem untold_len (l : List DPart) : (untold l).length ≤ l.length := List.length_filter_le _ _
theorem untold_hit (l : List DPart) (j : Nat) (h : j < l.length) (ht : l[j].told = false) : untold (l.take (j + 1)) = untold (l.take j) ++ [l[j]] := by
  unfold untold
  rw [List.take_succ_eq_append_getElem h, List.filter_append]
  simp [ht]
theorem untold_miss (l : List DPart) (j : Nat) (h : j < l.length) (ht : l[j].told = true) : untold (l.take (j + 1)) = untold (l.take j) := by
  unfold untold
  rw [List.take_succ_eq_append_getElem h, List.filter_append]
  simp [ht]
/-- What is open of these tasks. -/
def outOf (ts : List DTask) (ids : List Nat) : List DPart := ids.flatMap (fun id => untold (ts.getD (id - 1) default).parts)
theorem outOf_snoc (ts : List DTask) (ids : List Nat) (x : Nat) : outOf ts (ids ++ [x]) = outOf ts ids ++ untold (ts.getD (x - 1) default).parts := by
  unfold outOf
  rw [List.flatMap_append]
  simp
theorem outOf_len (ts : List DTask) (h : ∀ i, (ts.getD i default).parts.length ≤ 64) (ids : List Nat) : (outOf ts ids).length ≤ ids.length * 64 := by
  induction ids with
  | nil => simp [outOf]
  | cons x ids ih =>
    have : outOf ts (x :: ids) = untold (ts.getD (x - 1) default).parts ++ outOf ts ids := rfl
    rw [this, List.length_append, List.length_cons]
    have h1 := untold_len (ts.getD (x - 1) default).parts
    have h2 := h (x - 1)
    omega
theorem dopen_out (D : DD) : dopen D = outOf D.ts (dwaitOf D.ts (fun _ => true)) := rfl
theorem DSm.at_ {D : DD} (h : DSm D) (i : Nat) : (D.ts.getD i default).parts.length ≤ 64 := by
  rw [List.getD_eq_getElem?_getD]
  by_cases e : i < D.ts.length
  · rw [List.getElem?_eq_getElem e]
    exact (h _ (List.getElem_mem e)).1
  · rw [List.getElem?_eq_none (by omega)]
    exact Nat.zero_le _

set_option maxRecDepth 100000 in
set_option maxHeartbeats 2000000 in
theorem dopen_any (B hi g : Nat) (D : DD) (w : World) (h : DAt X B hi w g D) (hper : D.per ≠ 0) (few : D.ts.length ≤ 1048576) (hsm : DSm D) :
    Calls Try.prog 25 #[.pointer (some ⟨g, 0, none⟩)] w fun e w' => ∃ v, e = .returned v ∧ A125 w w' v (dopen D) ∧ Keep No w w' := by
  have HNO := Lib.hid (h.notnone hper)
  have HW := Lib.hid (waiting_all B hi g D w h few)
  have H := Lib.hid h
  have hrange := dwait_range D.ts (fun _ => true)
  have hlen := dwait_len D.ts (fun _ => true)
  have HRANGE := Lib.hid hrange
  rw [dopen_out]
  have hsm2 := fun i => hsm.at_ i
  have HSM := Lib.hid hsm2
  clear h hper hrange hsm hsm2
  generalize dwaitOf D.ts (fun _ => true) = ids at *
  go_enter Try.func25, Try.ntmps25
  go_wp2_with fail
  refine HNO.out.mono ?_
  rintro e w1 ⟨rfl, rfl⟩
  go_wp2_with fail
  refine HW.out.mono ?_
  rintro e w1 ⟨r, rfl, hr, k1⟩
  obtain ⟨Ai, ki, rfl, hoi, -⟩ := hr
  have hids : R29 w1 (.slice Ai ids.length ki) ids := ⟨Ai, ki, rfl, hoi⟩
  have HIDS := Lib.hid hids
  clear hoi hids
  go_wp2_with fail
  go_loopw [2, 12] (fun ov iv wr => ∃ i A k, i ≤ ids.length ∧ iv = .int .i64 (i : Nat) ∧ ov = .slice A (outOf D.ts (ids.take i)).length k ∧ A125 w wr (.slice A (outOf D.ts (ids.take i)).length k) (outOf D.ts (ids.take i)) ∧ KeepZ (TO w.heap.size) w1 wr) (fun _ iv _ => ids.length - (intOf iv).toNat)
  case atStart => exact ⟨0, none, 0, Nat.zero_le _, rfl, rfl, A125.nil _ _, KeepZ.refl _ _⟩
  case round =>
    obtain ⟨i, A, k, hi', rfl, rfl, ho, hk⟩ := hrel
    have kw : Keep No w wr := ((KeepZ.of k1).trans hk).no (fun k s h => h.1)
    have HKW := Lib.hid kw
    clear kw
    by_cases hlt : i < ids.length
    · obtain ⟨b, o, c', hv, hc', hcell⟩ := (HIDS.out.keepZ hk (fun k h => by have := h.2; simp at this)).n64.at_ i hlt
      injection hv with hAA _ hcc
      subst hAA hcc
      have hidr := HRANGE.out ids[i] (List.getElem_mem hlt)
      have hsn : outOf D.ts (ids.take (i + 1)) = outOf D.ts (ids.take i) ++ untold (D.ts.getD (ids[i] - 1) default).parts := by rw [List.take_succ_eq_append_getElem hlt, outOf_snoc]
      have hln := outOf_len D.ts HSM.out (ids.take i)
      rw [List.length_take, Nat.min_eq_left hi'] at hln
      have HSN := Lib.hid hsn
      clear hsn
      generalize outOf D.ts (ids.take i) = L at *
      generalize ids[i] = id at *
      obtain ⟨n, hn⟩ : ∃ n, id = n + 1 := ⟨id - 1, by omega⟩
      have hnl : n < D.ts.length := by omega
      obtain ⟨M, f, tb, l1, l2, c4, hm, hf, -, ht, -⟩ := H.out.task n hnl
      obtain ⟨-, -, AA, kk, W, tcell, trow, -, -⟩ := ht
      have hsm' := HSM.out n
      have HT : Hid (D.ts.getD (id - 1) default = D.ts[n]) := by show _ = _; rw [hn, Nat.add_sub_cancel]; exact getD_at _ n hnl
      rw [getD_at _ n hnl] at hsm'
      have t0 := HKW.out.cellSome ((blk_cell tcell 0).trans rfl) (fun h => h)
      have c4 := HKW.out.cellSome c4 (fun h => h)
      have hrow : D145 w (.slice AA D.ts[n].parts.length kk) D.ts[n].parts := Sl.of_own trow
      have HROW := Lib.hid hrow
      have hidl : id < 18446744073709551616 := by omega
      have hf' : f id = some tb := by rw [hn]; exact hf
      have HM := Lib.hid (hm.no HKW.out)
      have HF := Lib.hid hf'
      rw [HT.out] at HSN
      have HO := Lib.hid ho
      clear hm hf hf' tcell trow hrow HT ho
      generalize D.ts[n] = tt at *
      obtain ⟨parts, wr0, wants, st⟩ := tt
      simp only at t0 HROW HSN hsm'
      clear hnl hn
      go_wp2_with (at_lookup; refine wpList_lookP _ rfl _ _ rfl M _ f rfl HM.out id hidl rfl (some tb) HF.out ?_; show wpList _ _ _ _ (Act.put _ _ (Value.pointer (some ⟨tb, 0, none⟩))) _)
      have HK := Lib.hid hk
      clear hk
      go_loopw [2, 26] (fun ov jv w2 => ∃ j A k, j ≤ parts.length ∧ jv = .int .i64 (j : Nat) ∧ ov = .slice A (L ++ untold (parts.take j)).length k ∧ A125 w w2 (.slice A (L ++ untold (parts.take j)).length k) (L ++ untold (parts.take j)) ∧ KeepZ (TO w.heap.size) w1 w2) (fun _ jv _ => parts.length - (intOf jv).toNat)
      case atStart => exact ⟨0, A, k, Nat.zero_le _, rfl, by simp [untold], by simpa [untold] using HO.out, HK.out⟩
      case round =>
        obtain ⟨j, A3, k3, hj', rfl, rfl, ho3, hk3⟩ := hrel
        have kk3 : Keep No w wr := ((KeepZ.of k1).trans hk3).no (fun k s h => h.1)
        have KK3 := Lib.hid kk3
        clear kk3
        have hL3 : (L ++ untold (parts.take j)).length ≤ 1073741824 := by
          have h1 := untold_len (parts.take j)
          rw [List.length_take] at h1
          rw [List.length_append]
          omega
        by_cases hjl : j < parts.length
        · obtain ⟨b2, o2, c2, hv2, hc2, x0, x1, x2, x3, x4, x5, x6, x7, x8⟩ := (HROW.out.keep KK3.out).at_ j hjl
          injection hv2 with hAA _ hcc
          subst hAA hcc
          have hhit := untold_hit parts j hjl
          have hmiss := untold_miss parts j hjl
          have HO3 := Lib.hid ho3
          clear ho3 hc2
          generalize parts[j] = p at *
          obtain ⟨q0, q1, q2, q3, q4, q5, q6, q7, q8⟩ := p
          simp only at x0 x1 x2 x3 x4 x5 x6 x7 x8 hhit hmiss
          cases q7
          · have HE := Lib.hid (hhit rfl)
            clear hhit hmiss
            generalize untold (parts.take j) = U at *
            generalize hL2 : L ++ U = L2 at *
            have HL2 := Lib.hid hL2
            clear hL2
            have ka := hk3.alloc (.cells #[.int .u64 (q0 : Nat), .int .i64 (q1 : Nat), .int .u64 (q2 : Nat), .int .u32 (q3 : Nat), .int .u32 (q4 : Nat), .bool q5, .string q6, .bool false, .string q8] 145)
            have k0 : Keep No wr (wr.alloc (.cells #[.int .u64 (q0 : Nat), .int .i64 (q1 : Nat), .int .u64 (q2 : Nat), .int .u32 (q3 : Nat), .int .u32 (q4 : Nat), .bool q5, .string q6, .bool false, .string q8] 145)) := (Keep.refl _ _).alloc _
            go_wp2_with (at_builtin; refine wpList_ask rfl _ _ rfl w w1 _ A3 k3 L2 ⟨q0, q1, q2, q3, q4, q5, q6, false, q8⟩ _ _ (World.size_alloc _ _).symm rfl rfl (HO3.out.keep k0) ka k1.size rfl rfl hL3 ?_; intro A' k' w' ho' hk')
            refine ⟨⟨j + 1, A', k', by omega, by simp, by rw [HE.out, ← List.append_assoc, HL2.out]; simp, by rw [HE.out, ← List.append_assoc, HL2.out, List.length_append]; exact ho', hk'⟩, by simp [intOf]; omega⟩
          · have HE := Lib.hid (hmiss rfl)
            clear hhit hmiss
            have k0 : Keep No wr (wr.alloc (.cells #[.int .u64 (q0 : Nat), .int .i64 (q1 : Nat), .int .u64 (q2 : Nat), .int .u32 (q3 : Nat), .int .u32 (q4 : Nat), .bool q5, .string q6, .bool true, .string q8] 145)) := (Keep.refl _ _).alloc _
            have ho4 := Lib.hid (HO3.out.keep k0)
            go_wp2_with fail
            refine ⟨⟨j + 1, A3, k3, by omega, by simp, by rw [HE.out], by rw [HE.out]; exact ho4.out, hk3.alloc _⟩, by simp [intOf]; omega⟩
        · obtain rfl : j = parts.length := by omega
          rw [List.take_length] at ho3 ⊢
          go_wp2_with fail
          refine ⟨⟨i + 1, A3, k3, by omega, by simp, by rw [HSN.out], by rw [HSN.out]; exact ho3, hk3⟩, by simp [intOf]; omega⟩
    · obtain rfl : i = ids.length := by omega
      rw [List.take_length] at ho ⊢
      go_wp2_with fail
      go_ret
      exact ⟨_, rfl, ho, HKW.out⟩
end Go.Proofs.Ytimdaioojnohmaa
