/-
  Plain: how much of a disk is open, behind each call.
-/
import Derived.Test.YtimdaioojnohmaaDInv
namespace Go.Proofs.Ytimdaioojnohmaa

def openOf (t : DTask) : Nat := if t.state = 1 then (untold t.parts).length else 0
def nopen (ts : List DTask) : Nat := (ts.map openOf).sum
theorem nopen_snoc (ts : List DTask) (t : DTask) : nopen (ts ++ [t]) = nopen ts + openOf t := by
  unfold nopen
  rw [List.map_append, List.sum_append]
  simp
theorem nopen_set (ts : List DTask) (n : Nat) (h : n < ts.length) (t : DTask) : nopen (ts.set n t) + openOf ts[n] = nopen ts + openOf t := by
  induction ts generalizing n with
  | nil => simp at h
  | cons x ts ih =>
    cases n with
    | zero =>
      simp only [List.set_cons_zero, List.getElem_cons_zero, nopen, List.map_cons, List.sum_cons]
      omega
    | succ n =>
      have := ih n (by simpa using h)
      simp only [List.set_cons_succ, List.getElem_cons_succ, nopen, List.map_cons, List.sum_cons] at this ⊢
      omega
theorem out_waits (ts : List DTask) (k : Nat) (hk : k ≤ ts.length) : (outOf ts (waitsTo ts (fun _ => true) k)).length = nopen (ts.take k) := by
  induction k with
  | zero => simp [waitsTo, outOf, nopen]
  | succ k ih =>
    have hlt : k < ts.length := by omega
    have ih := ih (by omega)
    rw [List.take_succ_eq_append_getElem hlt, nopen_snoc, ← ih]
    by_cases hs : ts[k].state = 1
    · rw [waitsTo_hit ts _ k hlt hs rfl, outOf_snoc, List.length_append, Nat.add_sub_cancel, getD_at _ k hlt]
      unfold openOf
      rw [if_pos hs]
    · rw [waitsTo_miss ts _ k hlt (fun e => hs e.1)]
      unfold openOf
      rw [if_neg hs]
      rfl
theorem dopen_len (D : DD) : (dopen D).length = nopen D.ts := by
  rw [dopen_out, ← waitsTo_all, out_waits D.ts _ (Nat.le_refl _), List.take_length]
/-- No call ends what has parts but Told: the flushes leave what is open. -/
theorem dend_nopen (D : DD) (id : Nat) (h1 : 1 ≤ id) (h2 : id ≤ D.ts.length) (hp : untold (D.ts.getD (id - 1) default).parts = []) : nopen (dend D id).ts = nopen D.ts := by
  have hlt : id - 1 < D.ts.length := by omega
  rw [getD_at _ _ hlt] at hp
  have := nopen_set D.ts (id - 1) hlt { D.ts[id - 1] with state := 2 }
  have e1 : openOf D.ts[id - 1] = 0 := by unfold openOf; rw [hp]; simp
  have e2 : openOf { D.ts[id - 1] with state := 2 } = 0 := by unfold openOf; rw [if_neg (by simp)]
  unfold dend
  simp only
  rw [getD_at _ _ hlt]
  rw [e1, e2] at this
  exact this
theorem fstep_parts (D : DD) (id i : Nat) : ((fstep D id).ts.getD i default).parts = (D.ts.getD i default).parts := by
  unfold fstep
  split
  · rw [dend_getD]; split <;> rfl
  · rfl
theorem folds_nopen : ∀ (ids : List Nat) (D : DD), (∀ x ∈ ids, 1 ≤ x ∧ x ≤ D.ts.length ∧ (D.ts.getD (x - 1) default).parts = []) → nopen (ids.foldl fstep D).ts = nopen D.ts := by
  intro ids
  induction ids with
  | nil => intro D _; rfl
  | cons x ids ih =>
    intro D h
    rw [List.foldl_cons, ih (fstep D x) (fun y hy => by rw [fstep_len, fstep_parts]; exact h y (by simp [hy]))]
    obtain ⟨h1, h2, h3⟩ := h x (by simp)
    unfold fstep
    split
    · exact dend_nopen D x h1 h2 (by rw [h3]; rfl)
    · rfl
theorem dflushes_nopen (D : DD) : nopen (dflushes D).ts = nopen D.ts := by
  rw [dflushes_eq]
  refine folds_nopen _ D (fun x hx => ?_)
  obtain ⟨h1, h2⟩ := dwait_range D.ts _ x hx
  refine ⟨h1, h2, ?_⟩
  unfold dwaitOf at hx
  obtain ⟨i, hi, rfl⟩ := List.mem_map.1 hx
  have := (List.mem_filter.1 hi).2
  rw [Bool.and_eq_true] at this
  rw [Nat.add_sub_cancel]
  exact List.eq_nil_of_length_eq_zero (by simpa using this.2)
/-- A call that may be refused: what is refused changes nothing; else a task more, and what is asked is open. -/
def Fair (D : DD) (asks code : Nat) (D' : DD) : Prop := (code ≠ 0 ∧ asks = 0 ∧ D' = D) ∨ (code = 0 ∧ D'.ts.length = D.ts.length + 1 ∧ nopen D'.ts = nopen D.ts + asks)
theorem asksOf_untold (chunks : List Nat) (id : Nat) (write : Bool) (data : ByteArray) (l : List CPart) (k : Nat) : untold (asksOf chunks id write data l k) = asksOf chunks id write data l k := by
  unfold untold
  rw [List.filter_eq_self]
  intro p hp
  unfold asksOf at hp
  obtain ⟨i, _, rfl⟩ := List.mem_map.1 hp
  rfl
theorem dbegin_fair (D : DD) (a c : Nat) (write : Bool) (data : ByteArray) (now : Nat) : Fair D (dbegin D a c write data now).2.1.length (dbegin D a c write data now).2.2.1 (dbegin D a c write data now).2.2.2 := by
  by_cases h1 : c = 0 ∨ D.blocks < a + c
  · rw [dbegin_30 D a c write data now h1]; exact .inl ⟨by simp, rfl, rfl⟩
  · by_cases h2 : 64 < (split a c D.per 8).length ∨ (split a c D.per 8).length = 0
    · rw [dbegin_11 D a c write data now h1 h2]; exact .inl ⟨by simp, rfl, rfl⟩
    · rw [dbegin_ok D a c write data now h1 h2 _ rfl]
      rcases dadd_cases D ⟨asksOf D.chunks (D.ts.length + 1) write data (split a c D.per 8) (split a c D.per 8).length, write, [], 0⟩ now with ⟨e1, e2⟩ | ⟨e1, e2, e3⟩
      · rw [if_pos e1]
        refine .inr ⟨rfl, ?_, ?_⟩
        · rw [e2]; simp
        · rw [e2]
          simp only
          rw [nopen_snoc]
          unfold openOf
          rw [if_pos rfl]
          simp only
          rw [asksOf_untold]
      · rw [if_neg e1]
        exact .inl ⟨e1, rfl, e3⟩
theorem dwrite_fair (D : DD) (a : Nat) (data : ByteArray) (now : Nat) : Fair D (dwrite D a data now).2.1.length (dwrite D a data now).2.2.1 (dwrite D a data now).2.2.2 := by
  unfold dwrite
  split
  · exact .inl ⟨by simp, rfl, rfl⟩
  · split
    · exact .inl ⟨by simp, rfl, rfl⟩
    · exact dbegin_fair _ _ _ _ _ _
theorem dread_fair (D : DD) (a c now : Nat) : Fair D (dread D a c now).2.1.length (dread D a c now).2.2.1 (dread D a c now).2.2.2 := dbegin_fair _ _ _ _ _ _
theorem dflush_fair (D : DD) (now : Nat) : Fair D 0 (dflush D now).2.1 (dflush D now).2.2 := by
  unfold dflush
  simp only
  rcases dadd_cases D ⟨[], false, dwaitOf D.ts (·.write), 0⟩ now with ⟨e1, e2⟩ | ⟨e1, e2, e3⟩
  · rw [if_pos e1]
    refine .inr ⟨e1, ?_, ?_⟩
    · rw [dflushes_len, e2]; simp
    · rw [dflushes_nopen, e2]
      simp only
      rw [nopen_snoc]
      rfl
  · rw [if_neg e1]
    exact .inl ⟨e1, rfl, e3⟩
theorem untold_set (l : List DPart) (k : Nat) (h : k < l.length) (ht : l[k].told = false) (p : DPart) (hp : p.told = true) : (untold (l.set k p)).length + 1 = (untold l).length := by
  induction l generalizing k with
  | nil => simp at h
  | cons x l ih =>
    cases k with
    | zero =>
      simp only [List.getElem_cons_zero] at ht
      simp [untold, ht, hp]
    | succ k =>
      have := ih k (by simpa using h) (by simpa using ht)
      unfold untold at this ⊢
      rw [List.set_cons_succ, List.filter_cons, List.filter_cons]
      split
      · simp only [List.length_cons]; omega
      · exact this
/-- Told: what is told is no more open; else nothing changes. -/
theorem dtold_fair (D : DD) (id : Nat) (k : Int) (s : ByteArray) : ((dtold D id k s).1 ≠ 0 ∧ (dtold D id k s).2 = D) ∨ ((dtold D id k s).1 = 0 ∧ nopen (dtold D id k s).2.ts + 1 = nopen D.ts) := by
  by_cases hno : id = 0 ∨ D.ts.length < id
  · rw [dtold_no D id k s hno]; exact .inl ⟨by simp, rfl⟩
  · obtain ⟨n, rfl⟩ : ∃ n, id = n + 1 := ⟨id - 1, by omega⟩
    have hnl : n < D.ts.length := by omega
    by_cases h1 : D.ts[n].state ≠ 1 ∨ k < 0 ∨ (D.ts[n].parts.length : Int) ≤ k
    · rw [dtold_40 D n k s hnl h1]; exact .inl ⟨by simp, rfl⟩
    · obtain ⟨kn, rfl⟩ := Int.eq_ofNat_of_zero_le (show 0 ≤ k by omega)
      have hkl : kn < D.ts[n].parts.length := by omega
      have hst : D.ts[n].state = 1 := by omega
      cases ht : D.ts[n].parts[kn].told
      · by_cases hw : D.ts[n].write = true ∨ s.size = 8 * D.ts[n].parts[kn].cnt
        · rw [dtold_ok D n kn s hnl hst hkl ht hw]
          have hset := nopen_set D.ts n hnl (ttold D.ts[n] kn s)
          have hu : (untold (ttold D.ts[n] kn s).parts).length + 1 = (untold D.ts[n].parts).length := by
            unfold ttold
            simp only
            exact untold_set _ kn hkl ht _ rfl
          have o1 : openOf D.ts[n] = (untold D.ts[n].parts).length := by unfold openOf; rw [if_pos hst]
          have o2 : openOf (ttold D.ts[n] kn s) = (untold (ttold D.ts[n] kn s).parts).length := by
            unfold openOf
            rw [if_pos (show (ttold D.ts[n] kn s).state = 1 from hst)]
          refine .inr ⟨rfl, ?_⟩
          simp only
          split
          · simp only; omega
          · rename_i hany
            have hnil : untold (ttold D.ts[n] kn s).parts = [] := by
              unfold untold
              rw [List.filter_eq_nil_iff]
              intro p hp e
              exact hany (List.any_eq_true.2 ⟨p, hp, e⟩)
            rw [dflushes_nopen, dend_nopen _ (n + 1) (by omega) (by simp; omega) (by
              simp only [Nat.add_sub_cancel]
              rw [getD_set, if_pos ⟨rfl, hnl⟩]
              exact hnil)]
            simp only
            omega
        · have hw0 : D.ts[n].write = false := by
            cases hh : D.ts[n].write
            · rfl
            · exact absurd (.inl hh) hw
          rw [dtold_2 D n kn s hnl hst hkl ht hw0 (fun e => hw (.inr e))]
          exact .inl ⟨by simp, rfl⟩
      · rw [dtold_51 D n kn s hnl hst hkl ht]; exact .inl ⟨by simp, rfl⟩
end Go.Proofs.Ytimdaioojnohmaa
