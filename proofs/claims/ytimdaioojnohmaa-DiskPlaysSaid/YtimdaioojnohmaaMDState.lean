/-
  (*Disk).State walked.
-/
import Derived.Test.YtimdaioojnohmaaMDFlush
import Derived.Test.YtimdaioojnohmaaMDMem
import Derived.Lib.AppendStr
import Derived.Lib.SmallJoins
import Derived.Laws.IdiomStrings
import Derived.Laws.BytesArg
namespace Go.Proofs.Ytimdaioojnohmaa
open Go.RowKit Go.Maps
variable {X : Nat → Prop}

/-- No task has many parts, or long answers. -/
def DSm (D : DD) : Prop := ∀ t ∈ D.ts, t.parts.length ≤ 64 ∧ ∀ p ∈ t.parts, p.got.size ≤ 1048576 ∧ p.cnt < 4294967296
theorem strCells_append (a b : ByteArray) : Lib.strCells (a ++ b) = Lib.strCells a ++ Lib.strCells b := by
  unfold Lib.strCells
  rw [Joins.data_append, List.map_append]
theorem gotOf_snoc (l : List DPart) (p : DPart) : gotOf (l ++ [p]) = gotOf l ++ p.got := by
  unfold gotOf
  rw [List.foldl_append]; rfl
theorem gotOf_size (l : List DPart) (h : ∀ p ∈ l, p.got.size ≤ 1048576) : (gotOf l).size ≤ l.length * 1048576 := by
  have key : ∀ k, k ≤ l.length → (gotOf (l.take k)).size ≤ k * 1048576 := by
    intro k
    induction k with
    | zero => intro _; simp [gotOf]
    | succ k ih =>
      intro hk
      rw [List.take_succ_eq_append_getElem (by omega), gotOf_snoc, ByteArray.size_append]
      have h1 := ih (by omega)
      have h2 := h l[k] (List.getElem_mem (by omega))
      omega
  have := key l.length (Nat.le_refl _)
  rwa [List.take_length] at this

theorem Try.info5 : (Try.prog.info? 5).map (fun i => (i.zero, i.size, i.bytes)) = some (some (.int .u8 0), 1, 1) := by kernel_rfl
/-- append of a string to bytes that are one's own. -/
theorem wpList_apps {w : World} {ops : Array Oper} {rest : List Oper} {o : Oper} {a : Act} {Q : Exit → Act → World → Prop} (hgd : o.guard = none) (sl x : Operand)
    (ho : o.op = .call { callee := .builtin .append, args := #[sl, x], argTypes := #[150, 9] })
    (base : Nat) (v : Value) (n : Nat) (xs : List Value) (hown : w.ownsRow base 5 1 v n xs) (hs : a.eval sl = v) (s : ByteArray) (hx : a.eval x = .string s) (hb : n + s.size ≤ 1073741824) (hbase : base ≤ w.heap.size)
    (h : ∀ A' c' w', w'.ownsRow base 5 1 (.slice A' (n + s.size) c') (n + s.size) (xs ++ Lib.strCells s) → w.grownBy w' v.ownBlock → wpList Try.prog ops Q rest (a.put o.dst (.slice A' (n + s.size) c')) w') : wpList Try.prog ops Q (o :: rest) a w := by
  obtain ⟨i, hi, hz0, hz1, hz2⟩ := info_parts Try.info5
  refine Lib.wpList_append_own_string w hgd sl x 150 9 ho base 5 i Try.underlying150 Try.underlying9 hi hz0 hz1 hz2 v n xs hs hown s hx (by simp only [maxLen]; omega) (by omega) hbase (fun v' w' ho' hg _ => ?_)
  obtain ⟨A', c', rfl⟩ := own_slice ho'
  exact h A' c' w' ho' hg
theorem nums_of (s : ByteArray) : strOfNums (s.data.toList.map (fun b => (b.toNat : Int))) = s := by
  obtain ⟨a⟩ := s
  simp [strOfNums, Function.comp_def]
theorem conv_own {w : World} {base : Nat} {v : Value} {n : Nat} {s : ByteArray} (h : w.ownsRow base 5 1 v n (Lib.strCells s)) (hn : n = s.size) : (convert 150 9 v).run Try.prog w = .ok (.string s) w := by
  rcases h.2 with ⟨rfl, rfl⟩ | ⟨g, cap, cur, rfl, _, hg, hc, _⟩
  · have h0 : s.size = 0 := hn.symm
    have : s = ByteArray.empty := by
      obtain ⟨a⟩ := s
      have : a.size = 0 := h0
      have : a = #[] := Array.eq_empty_of_size_eq_zero this
      rw [this]; rfl
    rw [this]
    exact run_convert_bytes_nil w 150 5 Try.underlying150 Try.underlying5 0 0 9 Try.underlying9
  · have := run_convert_bytes_arg w 150 5 Try.underlying150 Try.underlying5 g 0 n cap (s.data.toList.map (fun b => (b.toNat : Int))) (by simp [hn]) (fun i hi => ?_) 9 Try.underlying9
    · rw [nums_of] at this
      exact this
    · have := h.cells (g := g) rfl i (Value.int .u8 ((s.data.toList.map (fun b => (b.toNat : Int))).getD i 0)) (by
        have hi' : i < s.data.size := by rw [hn] at hi; exact hi
        simp only [Lib.strCells, List.getElem?_map, Array.getElem?_toList, List.getD_eq_getElem?_getD, Array.getElem?_eq_getElem hi', Option.map_some, Option.getD_some])
      rw [Addr.add_at] at this
      exact this

theorem dstate_no (D : DD) (id : Nat) (h : id = 0 ∨ D.ts.length < id) : dstate D id = (0, ByteArray.empty) := by
  unfold dstate
  rw [if_pos h]
theorem dstate_yes (D : DD) (n : Nat) (h : n < D.ts.length) : dstate D (n + 1) = if D.ts[n].write ∨ D.ts[n].state ≠ 2 then (D.ts[n].state, ByteArray.empty) else (D.ts[n].state, gotOf D.ts[n].parts) := by
  unfold dstate
  rw [if_neg (by omega), Nat.add_sub_cancel, getD_at _ n h]
set_option maxRecDepth 100000 in
set_option maxHeartbeats 2000000 in
theorem dstate_any (B hi g id : Nat) (D : DD) (w : World) (h : DAt X B hi w g D) (hper : D.per ≠ 0) (hid : id < 18446744073709551616) (hsm : DSm D) :
    Calls Try.prog 29 #[.pointer (some ⟨g, 0, none⟩), .int .u64 (id : Nat)] w fun e w' => e = .returned (.tuple #[.int .i64 ((dstate D id).1 : Nat), .string (dstate D id).2]) ∧ Keep No w w' := by
  have HNO := Lib.hid (h.notnone hper)
  by_cases hno : id = 0 ∨ D.ts.length < id
  · rw [dstate_no D id hno]
    obtain ⟨M, f, c4, hm, hf⟩ := h.none_ id hno
    have hrun0 := run_lookP hm id hid
    rw [hf] at hrun0
    have hrun : (Instr.lookup 69 (.map (some M)) (.int .u64 (id : Nat)) false).run Try.prog w = .ok (.pointer none) w := hrun0
    clear hrun0
    clear h hm hf hno
    go_enter Try.func29, Try.ntmps29
    go_wp2_with fail
    refine HNO.out.mono ?_
    rintro e w1 ⟨rfl, rfl⟩
    go_wp2_with fail
    go_ret2
    exact ⟨rfl, Keep.refl _ _⟩
  · obtain ⟨n, hn⟩ : ∃ n, id = n + 1 := ⟨id - 1, by omega⟩
    have hnl : n < D.ts.length := by omega
    rw [hn, dstate_yes D n hnl, ← hn]
    obtain ⟨M, f, tb, l1, l2, c4, hm, hf, -, ht, -⟩ := h.task n hnl
    have hsm' := hsm D.ts[n] (List.getElem_mem hnl)
    obtain ⟨-, -, A, k, W, tcell, trow, -, -⟩ := ht
    generalize D.ts[n] = t at *
    obtain ⟨parts, wr0, wants, st⟩ := t
    simp only at tcell trow hsm' ⊢
    have t0 := (blk_cell tcell 0).trans rfl
    have t1 := (blk_cell tcell 1).trans rfl
    have t3 := (blk_cell tcell 3).trans rfl
    rw [← hn] at hf
    have hrun0 := run_lookP hm id hid
    rw [hf] at hrun0
    have hrun : (Instr.lookup 69 (.map (some M)) (.int .u64 (id : Nat)) false).run Try.prog w = .ok (.pointer (some ⟨tb, 0, none⟩)) w := hrun0
    clear hrun0
    clear h hm hf hno hnl tcell hsm hn
    cases wr0
    · by_cases hs2 : st = 2
      · subst hs2
        rw [if_neg (by simp)]
        have hrow : D145 w (.slice A parts.length k) parts := Sl.of_own trow
        have HROW := Lib.hid hrow
        have hgs := gotOf_size parts (fun p hp => (hsm'.2 p hp).1)
        have HSM := Lib.hid hsm'
        have hlen : parts.length ≤ 64 := hsm'.1
        clear hrow trow hsm'
        simp only
        go_enter Try.func29, Try.ntmps29
        go_wp2_with fail
        refine HNO.out.mono ?_
        rintro e w1 ⟨rfl, rfl⟩
        go_wp2_with fail
        go_loopw [7, 47] (fun sv iv wr => ∃ i, i ≤ parts.length ∧ iv = .int .i64 (i : Nat) ∧ wr.ownsRow w.heap.size 5 1 sv (gotOf (parts.take i)).size (Lib.strCells (gotOf (parts.take i))) ∧ Keep No w wr) (fun _ iv _ => parts.length - (intOf iv).toNat)
        case atStart => exact ⟨0, Nat.zero_le _, rfl, World.ownsRow_nil _ _ _ _, Keep.refl _ _⟩
        case round =>
          obtain ⟨i, hi', rfl, ho, hk⟩ := hrel
          obtain ⟨A7, c7, rfl⟩ := own_slice ho
          by_cases hlt : i < parts.length
          · obtain ⟨b, o, c', hv, hc', x0, x1, x2, x3, x4, x5, x6, x7, x8⟩ := (HROW.out.keep hk).at_ i hlt
            injection hv with hA _ hcc
            subst hA hcc
            have hsn : gotOf (parts.take (i + 1)) = gotOf (parts.take i) ++ parts[i].got := by rw [List.take_succ_eq_append_getElem hlt, gotOf_snoc]
            have hb1 := gotOf_size (parts.take (i + 1)) (fun p hp => (HSM.out.2 p (List.mem_of_mem_take hp)).1)
            rw [List.length_take, Nat.min_eq_left (by omega), hsn, ByteArray.size_append] at hb1
            have HSN := Lib.hid hsn
            clear hsn
            generalize parts[i] = p at *
            obtain ⟨q0, q1, q2, q3, q4, q5, q6, q7, q8⟩ := p
            simp only at x0 x1 x2 x3 x4 x5 x6 x7 x8 hb1 HSN
            generalize gotOf (parts.take i) = G at *
            have hbytes : G.size + q8.size ≤ 1073741824 := by omega
            have hbase : w.heap.size ≤ (wr.alloc (.cells #[.int .u64 (q0 : Nat), .int .i64 (q1 : Nat), .int .u64 (q2 : Nat), .int .u32 (q3 : Nat), .int .u32 (q4 : Nat), .bool q5, .string q6, .bool q7, .string q8] 145)).heap.size := (hk.alloc _).size
            have hown := ho.alloc (.cells #[.int .u64 (q0 : Nat), .int .i64 (q1 : Nat), .int .u64 (q2 : Nat), .int .u32 (q3 : Nat), .int .u32 (q4 : Nat), .bool q5, .string q6, .bool q7, .string q8] 145)
            clear hgs hb1
            have hka := hk.alloc (.cells #[.int .u64 (q0 : Nat), .int .i64 (q1 : Nat), .int .u64 (q2 : Nat), .int .u32 (q3 : Nat), .int .u32 (q4 : Nat), .bool q5, .string q6, .bool q7, .string q8] 145)
            go_wp2_with (at_builtin; refine wpList_apps rfl _ _ rfl w.heap.size _ G.size _ hown rfl q8 rfl hbytes hbase ?_; intro A' c2 w' ho' hgr)
            refine ⟨⟨i + 1, by omega, by simp, by rw [HSN.out, ByteArray.size_append, strCells_append]; exact ho', hka.grown hgr (fun kk hkk hlt' => ?_)⟩, by simp [intOf]; omega⟩
            have := (ho.lt kk hkk).1
            omega
          · obtain rfl : i = parts.length := by omega
            rw [List.take_length] at ho ⊢
            have hcv := fun n => conv_own (w := wr.drewN n) (own_keep ho ((Keep.refl No wr).drewN n) (fun _ _ h => h)) rfl
            generalize hG : gotOf parts = G at *
            have HG := Lib.hid hG
            generalize G.size = gs at *
            clear hgs hG
            have t3 := hk.cellSome t3 (fun h => h)
            go_wp2_with fail
            go_quiet (fail)
            go_wp2_with fail
            go_ret2
            exact ⟨by rw [HG.out]; rfl, hk.drewN _⟩
      · have hs3 : ((st : Int) == 2) = false := beq_eq_false_iff_ne.2 (by omega)
        have hs4 : ((st : Int) != 2) = true := by rw [bne_iff_ne]; omega
        rw [if_pos (.inr hs2)]
        clear hs2
        go_enter Try.func29, Try.ntmps29
        go_wp2_with fail
        refine HNO.out.mono ?_
        rintro e w1 ⟨rfl, rfl⟩
        go_wp2_with fail
        go_ret2
        exact ⟨rfl, Keep.refl _ _⟩
    · rw [if_pos (.inl rfl)]
      go_enter Try.func29, Try.ntmps29
      go_wp2_with fail
      refine HNO.out.mono ?_
      rintro e w1 ⟨rfl, rfl⟩
      go_wp2_with fail
      go_ret2
      exact ⟨rfl, Keep.refl _ _⟩
end Go.Proofs.Ytimdaioojnohmaa
