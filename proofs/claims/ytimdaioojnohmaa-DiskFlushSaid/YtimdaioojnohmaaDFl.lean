/-
  Plain: which tasks are writes, and for whom each waits, behind each call; a disk beside blocks of others.
-/
import Derived.Test.YtimdaioojnohmaaDCount
import Derived.Test.YtimdaioojnohmaaDMapV
namespace Go.Proofs.Ytimdaioojnohmaa
open Go.RowKit Go.Maps

def shape (ts : List DTask) : List (Bool × List Nat) := ts.map (fun t => (t.write, t.wants))
theorem shape_len (ts : List DTask) : (shape ts).length = ts.length := by simp [shape]
theorem shape_set (ts : List DTask) (n : Nat) (t : DTask) (h1 : t.write = (ts.getD n default).write) (h2 : t.wants = (ts.getD n default).wants) : shape (ts.set n t) = shape ts := by
  unfold shape
  apply List.ext_getElem?
  intro i
  rw [List.getElem?_map, List.getElem?_map, List.getElem?_set]
  by_cases e : n = i
  · subst e
    by_cases hl : n < ts.length
    · rw [getD_at _ n hl] at h1 h2
      simp [hl, h1, h2]
    · simp [hl]
  · simp [e]
theorem dend_shape (D : DD) (id : Nat) : shape (dend D id).ts = shape D.ts := shape_set D.ts (id - 1) _ rfl rfl
theorem fstep_shape (D : DD) (id : Nat) : shape (fstep D id).ts = shape D.ts := by
  unfold fstep
  split
  · exact dend_shape D id
  · rfl
theorem dflushes_shape (D : DD) : shape (dflushes D).ts = shape D.ts := by
  rw [dflushes_eq]
  generalize dwaitOf D.ts _ = ids
  induction ids generalizing D with
  | nil => rfl
  | cons x ids ih => rw [List.foldl_cons, ih, fstep_shape]
theorem dlates_shape (l : List Nat) (ts : List DTask) : shape (dlates ts l) = shape ts := by
  unfold dlates
  induction l generalizing ts with
  | nil => rfl
  | cons x l ih => rw [List.foldl_cons, ih]; exact shape_set ts (x - 1) _ rfl rfl
theorem dtick_shape (D : DD) (now : Nat) : shape (dtick D now).2.ts = shape D.ts := dlates_shape _ _
theorem dtold_shape (D : DD) (id : Nat) (k : Int) (s : ByteArray) : shape (dtold D id k s).2.ts = shape D.ts := by
  unfold dtold
  split
  · rfl
  · simp only
    split
    · rfl
    · split
      · rfl
      · split
        · rfl
        · split
          · exact shape_set D.ts (id - 1) _ rfl rfl
          · rw [dflushes_shape, dend_shape]
            exact shape_set D.ts (id - 1) _ rfl rfl
theorem dbegin_shape (D : DD) (a c : Nat) (write : Bool) (data : ByteArray) (now : Nat) : ((dbegin D a c write data now).2.2.1 ≠ 0 ∧ (dbegin D a c write data now).2.2.2 = D) ∨
    ((dbegin D a c write data now).2.2.1 = 0 ∧ (dbegin D a c write data now).1 = D.ts.length + 1 ∧ shape (dbegin D a c write data now).2.2.2.ts = shape D.ts ++ [(write, [])]) := by
  by_cases h1 : c = 0 ∨ D.blocks < a + c
  · rw [dbegin_30 D a c write data now h1]; exact .inl ⟨by simp, rfl⟩
  · by_cases h2 : 64 < (split a c D.per 8).length ∨ (split a c D.per 8).length = 0
    · rw [dbegin_11 D a c write data now h1 h2]; exact .inl ⟨by simp, rfl⟩
    · rw [dbegin_ok D a c write data now h1 h2 _ rfl]
      rcases dadd_cases D ⟨asksOf D.chunks (D.ts.length + 1) write data (split a c D.per 8) (split a c D.per 8).length, write, [], 0⟩ now with ⟨e1, e2⟩ | ⟨e1, e2, e3⟩
      · rw [if_pos e1, e2]
        refine .inr ⟨rfl, rfl, ?_⟩
        simp [shape]
      · rw [if_neg e1]
        exact .inl ⟨e1, e3⟩
theorem dwrite_shape (D : DD) (a : Nat) (data : ByteArray) (now : Nat) : ((dwrite D a data now).2.2.1 ≠ 0 ∧ (dwrite D a data now).2.2.2 = D) ∨
    ((dwrite D a data now).2.2.1 = 0 ∧ (dwrite D a data now).1 = D.ts.length + 1 ∧ shape (dwrite D a data now).2.2.2.ts = shape D.ts ++ [(true, [])]) := by
  unfold dwrite
  split
  · exact .inl ⟨by simp, rfl⟩
  · split
    · exact .inl ⟨by simp, rfl⟩
    · exact dbegin_shape _ _ _ _ _ _
theorem dflush_shape (D : DD) (now : Nat) : ((dflush D now).2.1 ≠ 0 ∧ (dflush D now).2.2 = D) ∨
    ((dflush D now).2.1 = 0 ∧ (dflush D now).1 = D.ts.length + 1 ∧ shape (dflush D now).2.2.ts = shape D.ts ++ [(false, dwaitOf D.ts (·.write))]) := by
  unfold dflush
  simp only
  rcases dadd_cases D ⟨[], false, dwaitOf D.ts (·.write), 0⟩ now with ⟨e1, e2⟩ | ⟨e1, e2, e3⟩
  · rw [if_pos e1, dflushes_shape, e2]
    refine .inr ⟨rfl, rfl, ?_⟩
    simp [shape]
  · rw [if_neg e1]
    exact .inl ⟨e1, e3⟩
/-- The writes' numbers. -/
def wrs (sh : List (Bool × List Nat)) : List Nat := ((List.range sh.length).filter (fun i => (sh.getD i (false, [])).1)).map (· + 1)
theorem wrs_snoc (sh : List (Bool × List Nat)) (x : Bool × List Nat) : wrs (sh ++ [x]) = wrs sh ++ if x.1 then [sh.length + 1] else [] := by
  unfold wrs
  rw [List.length_append, List.length_singleton, List.range_succ, List.filter_append, List.map_append]
  congr 1
  · congr 1
    apply List.filter_congr
    intro i hi
    have := List.mem_range.1 hi
    rw [List.getD_eq_getElem?_getD, List.getElem?_append_left this, ← List.getD_eq_getElem?_getD]
  · cases h : x.1 <;> simp [h]
theorem wrs_range (sh : List (Bool × List Nat)) : ∀ x ∈ wrs sh, 1 ≤ x ∧ x ≤ sh.length := by
  intro x hx
  unfold wrs at hx
  obtain ⟨i, hi, rfl⟩ := List.mem_map.1 hx
  have := List.mem_range.1 (List.mem_filter.1 hi).1
  omega
theorem wrs_len (sh : List (Bool × List Nat)) : (wrs sh).length ≤ sh.length := by
  unfold wrs
  rw [List.length_map]
  exact Nat.le_trans (List.length_filter_le _ _) (by simp)
theorem shape_getD (ts : List DTask) (i : Nat) : (shape ts).getD i (false, []) = ((ts.getD i default).write, (ts.getD i default).wants) := by
  unfold shape
  rw [List.getD_eq_getElem?_getD, List.getElem?_map, List.getD_eq_getElem?_getD]
  cases ts[i]? <;> rfl
theorem wrs_open (ts : List DTask) : (wrs (shape ts)).filter (fun id => (ts.getD (id - 1) default).state == 1) = dwaitOf ts (·.write) := by
  unfold wrs dwaitOf
  rw [List.filter_map, List.filter_filter, shape_len]
  congr 1
  apply List.filter_congr
  intro i _
  rw [shape_getD]
  simp
theorem dstate_fst (D : DD) (id : Nat) (h1 : 1 ≤ id) (h2 : id ≤ D.ts.length) : (dstate D id).1 = (D.ts.getD (id - 1) default).state := by
  unfold dstate
  rw [if_neg (by omega)]
  simp only
  split <;> rfl
/-- For whom each flush waits, as the law keeps it. -/
def FW (sh : List (Bool × List Nat)) (lw : Nat → List Nat) : Prop := ∀ id, lw id = [] ∨ (1 ≤ id ∧ id ≤ sh.length ∧ lw id = (sh.getD (id - 1) (false, [])).2)
theorem FW.nil (sh : List (Bool × List Nat)) : FW sh (fun _ => []) := fun _ => .inl rfl
theorem FW.snoc {sh : List (Bool × List Nat)} {lw : Nat → List Nat} (h : FW sh lw) (x : Bool × List Nat) : FW (sh ++ [x]) lw := fun id => by
  rcases h id with h | ⟨h1, h2, h3⟩
  · exact .inl h
  · refine .inr ⟨h1, by simp; omega, ?_⟩
    rw [h3, List.getD_eq_getElem?_getD, List.getD_eq_getElem?_getD, List.getElem?_append_left (by omega)]
theorem FW.flush {sh : List (Bool × List Nat)} {lw : Nat → List Nat} (h : FW sh lw) (l : List Nat) : FW (sh ++ [(false, l)]) (fun id => if id = sh.length + 1 then l else lw id) := fun id => by
  by_cases e : id = sh.length + 1
  · subst e
    refine .inr ⟨by omega, by simp, ?_⟩
    simp
  · simp only [if_neg e]
    exact h.snoc _ id
/-- A disk's rows lie apart from the blocks of X: what is written there leaves it as it was. -/
theorem RX.foreign {X X' : Nat → Prop} {w w' : World} {v : Value} {l : List Nat} (h : RX X w v l) (hk : Keep (fun k => X k) w w') (hX : ∀ k, X' k → X k ∨ w.heap.size ≤ k) : RX X' w' v l := by
  obtain ⟨⟨A, k, rfl, ho⟩, hx⟩ := h
  refine ⟨⟨A, k, rfl, own_keep ho hk (fun b hb e => hx b hb e)⟩, fun b hb e => ?_⟩
  rcases hX b e with e | e
  · exact hx b hb e
  · have := own_lt ho hb
    omega
theorem DAt.foreign {X X' : Nat → Prop} {B hi : Nat} {w w' : World} {g : Nat} {D : DD} (h : DAt X B hi w g D) (hk : Keep (fun k => X k) w w') (hz : ∀ k o, X k → w.heap[k]? = some o → sig o = some 29 ∨ sig o = none) (hX : ∀ k, X' k → X k ∨ w.heap.size ≤ k) : DAt X' B hi w' g D := by
  obtain ⟨qb, C, M, f, lo, tb, hb, hg, hq, h0, hc, hm, hM, hn, ht, hl, hB, hh, hs⟩ := h
  have kz : KeepZ (fun k s => X k ∧ (s = some 29 ∨ s = none)) w w' := Keep.mono hk (fun i hi hx => ⟨w.heap[i], by rw [Array.getElem?_eq_getElem hi], hx, hz i _ hx (Array.getElem?_eq_getElem hi)⟩)
  have hm' : MapP w' M D.ts.length f := by
    obtain ⟨es, c, hb⟩ := hm.at_
    exact hm.block ((hk.blk hb hM.2).trans hb.symm)
  have hM' : B ≤ M ∧ ¬ X' M := ⟨hM.1, fun e => by
    rcases hX M e with e | e
    · exact hM.2 e
    · obtain ⟨es, c, hb⟩ := hm.at_
      have := lt_of_block hb
      omega⟩
  refine ⟨qb, C, M, f, lo, tb, kz.blk hb (fun ⟨_, e⟩ => by rcases e with e | e <;> simp [sig] at e), hg, hq.keep kz (fun k => ⟨fun ⟨_, e⟩ => by rcases e with e | e <;> simp at e, fun ⟨_, e⟩ => by rcases e with e | e <;> simp at e⟩), h0, hc.foreign hk hX, hm', hM', hn, fun i h => ⟨(ht i h).1, ?_⟩, hl, hB, hh, Nat.le_trans hs hk.size⟩
  obtain ⟨t1, t2, A, k, W, hbk, ho, hin, hw⟩ := (ht i h).2
  exact ⟨t1, t2, A, k, W, kz.blk hbk (fun ⟨_, e⟩ => by rcases e with e | e <;> simp [sig] at e), kz.row ho (fun _ _ ⟨_, e⟩ => by rcases e with e | e <;> simp at e), hin, hw.foreign hk hX⟩
end Go.Proofs.Ytimdaioojnohmaa
