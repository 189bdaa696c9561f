/-
  Plain: what is true of each disk that calls have made; how much of it is open.
  Plain: how much of a disk is open, behind each call.
  Plain: which tasks are writes, and for whom each waits, behind each call; a disk beside blocks of others.
-/
import Derived.Test.YtimdaioojnohmaaMDTold
import Derived.Test.YtimdaioojnohmaaMDPlain
import Derived.Test.YtimdaioojnohmaaMDMem
namespace Go.Proofs.Ytimdaioojnohmaa

/-- What a task may be. -/
structure TOk (n : Nat) (t : DTask) : Prop where
  few : t.parts.length ≤ 64
  got : ∀ p ∈ t.parts, p.got.size ≤ 1048576 ∧ p.cnt < 4294967296
  wants : t.wants.length ≤ n ∧ ∀ k ∈ t.wants, 1 ≤ k ∧ k ≤ n
  lone : t.parts ≠ [] → t.wants = []
  wr : t.write = true → t.parts ≠ []
structure DI (D : DD) : Prop where
  fit : dfit D.per D.blocks D.chunks.length = true
  b32 : D.blocks < 4294967296
  clen : D.chunks.length ≤ 1048576
  tok : ∀ i, TOk D.ts.length (D.ts.getD i default)
  qb : QB D.q
  nd : (D.q.map (·.1)).Nodup
  ids : ∀ x ∈ D.q, 1 ≤ x.1 ∧ x.1 ≤ D.ts.length ∧ (D.ts.getD (x.1 - 1) default).state = 1
  done : ∀ i, (D.ts.getD i default).state = 2 → ∀ k ∈ (D.ts.getD i default).wants, (D.ts.getD (k - 1) default).state = 2
theorem TOk.nil (n : Nat) : TOk n default := ⟨Nat.zero_le _, (fun p hp => by cases hp), ⟨Nat.zero_le _, (fun k hk => by cases hk)⟩, fun _ => rfl, (fun h => by cases h)⟩
theorem TOk.up {n m : Nat} {t : DTask} (h : TOk n t) (hm : n ≤ m) : TOk m t := ⟨h.few, h.got, ⟨Nat.le_trans h.wants.1 hm, fun k hk => ⟨(h.wants.2 k hk).1, Nat.le_trans (h.wants.2 k hk).2 hm⟩⟩, h.lone, h.wr⟩
theorem TOk.state {n s : Nat} {t : DTask} (h : TOk n t) : TOk n { t with state := s } := ⟨h.few, h.got, h.wants, h.lone, h.wr⟩
theorem DI.sm {D : DD} (h : DI D) : DSm D := fun t ht => by
  obtain ⟨i, hi, rfl⟩ := List.mem_iff_getElem.1 ht
  have := h.tok i
  rw [getD_at _ i hi] at this
  exact ⟨this.few, this.got⟩
theorem DI.wok {D : DD} (h : DI D) : WOk D := fun i => (h.tok i).wants
theorem qhas_mem (l : QL) (id : Nat) : qhas l id = true ↔ id ∈ l.map (·.1) := by
  unfold qhas
  rw [List.any_eq_true, List.mem_map]
  exact ⟨fun ⟨x, hx, e⟩ => ⟨x, hx, by simpa using e⟩, fun ⟨x, hx, e⟩ => ⟨x, hx, by simpa using e⟩⟩
theorem dadd_cases (D : DD) (t : DTask) (now : Nat) : ((dadd D t now).2.1 = 0 ∧ dadd D t now = (D.ts.length + 1, 0, { D with q := D.q ++ [(D.ts.length + 1, now)], ts := D.ts ++ [{ t with state := 1 }] })) ∨
    ((dadd D t now).2.1 ≠ 0 ∧ (dadd D t now).1 = 0 ∧ (dadd D t now).2.2 = D) := by
  unfold dadd qput
  by_cases h1 : qhas D.q (D.ts.length + 1) = true
  · rw [if_pos h1]; exact .inr ⟨by simp, by simp, by simp⟩
  · rw [if_neg h1]
    by_cases h2 : D.most ≤ D.q.length
    · rw [if_pos h2]; exact .inr ⟨by simp, by simp, by simp⟩
    · rw [if_neg h2]; exact .inl ⟨by simp, by simp⟩
theorem DI.add {D : DD} (h : DI D) (t : DTask) (now : Nat) (ht : TOk D.ts.length t) (hnow : now < 18446744073709551616) (few : D.ts.length < 1048576) : DI (dadd D t now).2.2 := by
  rcases dadd_cases D t now with ⟨-, e⟩ | ⟨-, -, e⟩
  · rw [e]
    refine ⟨h.fit, h.b32, h.clen, fun i => ?_, fun x hx => ?_, ?_, fun x hx => ?_, fun i hi => ?_⟩
    · simp only [List.length_append, List.length_cons, List.length_nil]
      rw [getD_snoc]
      split
      · exact (h.tok i).up (Nat.le_succ _)
      · split
        · exact (ht.up (Nat.le_succ _)).state
        · exact TOk.nil _
    · rcases List.mem_append.1 hx with hx | hx
      · exact h.qb x hx
      · obtain rfl := List.mem_singleton.1 hx
        exact ⟨by show _ + 1 < _; omega, hnow⟩
    · rw [List.map_append, List.nodup_append]
      refine ⟨h.nd, by simp, fun x hx y hy e => ?_⟩
      obtain ⟨z, hz, rfl⟩ := List.mem_map.1 hx
      have := (h.ids z hz).2.1
      simp at hy
      omega
    · simp only [List.length_append, List.length_cons, List.length_nil]
      rcases List.mem_append.1 hx with hx | hx
      · obtain ⟨h1, h2, h3⟩ := h.ids x hx
        refine ⟨h1, by omega, ?_⟩
        rw [getD_snoc, if_pos (by omega)]
        exact h3
      · obtain rfl := List.mem_singleton.1 hx
        refine ⟨by simp, by simp, ?_⟩
        simp only [Nat.add_sub_cancel]
        rw [getD_snoc, if_neg (by omega), if_pos rfl]
    · simp only at hi ⊢
      rw [getD_snoc] at hi ⊢
      by_cases e1 : i < D.ts.length
      · rw [if_pos e1] at hi ⊢
        intro k hk
        have hr := (h.tok i).wants.2 k hk
        rw [getD_snoc, if_pos (by omega)]
        exact h.done i hi k hk
      · rw [if_neg e1] at hi ⊢
        by_cases e2 : i = D.ts.length
        · rw [if_pos e2] at hi
          simp at hi
        · rw [if_neg e2]
          intro k hk
          cases hk
  · rw [e]; exact h
theorem dend_getD (D : DD) (id i : Nat) : (dend D id).ts.getD i default = if id - 1 = i ∧ id - 1 < D.ts.length then { D.ts.getD i default with state := 2 } else D.ts.getD i default := by
  unfold dend
  simp only [getD_set]
  split
  · rename_i e; rw [e.1]
  · rfl
theorem dend_q (D : DD) (id : Nat) : ∀ x ∈ (dend D id).q, x ∈ D.q ∧ x.1 ≠ id := by
  intro x hx
  unfold dend qdone at hx
  simp only at hx
  by_cases h1 : qhas D.q id = true
  · rw [if_pos h1] at hx
    obtain ⟨h2, h3⟩ := List.mem_filter.1 hx
    exact ⟨h2, by simpa using h3⟩
  · rw [if_neg h1] at hx
    refine ⟨hx, fun e => h1 ((qhas_mem _ _).2 (List.mem_map.2 ⟨x, hx, e⟩))⟩
theorem dend_nd {D : DD} (h : (D.q.map (·.1)).Nodup) (id : Nat) : ((dend D id).q.map (·.1)).Nodup := by
  unfold dend qdone
  simp only
  by_cases h1 : qhas D.q id = true
  · rw [if_pos h1]
    exact List.Nodup.sublist (List.Sublist.map _ List.filter_sublist) h
  · rw [if_neg h1]; exact h
theorem DI.ended {D : DD} (h : DI D) (id : Nat) (h1 : 1 ≤ id) (hw : ∀ k ∈ (D.ts.getD (id - 1) default).wants, (D.ts.getD (k - 1) default).state = 2) : DI (dend D id) := by
  have done2 : ∀ k, (D.ts.getD (k - 1) default).state = 2 → ((dend D id).ts.getD (k - 1) default).state = 2 := fun k hk => by
    rw [dend_getD]; split
    · rfl
    · exact hk
  refine ⟨h.fit, h.b32, h.clen, fun i => ?_, fun x hx => h.qb x (dend_q D id x hx).1, dend_nd h.nd id, fun x hx => ?_, fun i hi k hk => ?_⟩
  · rw [dend_len, dend_getD]
    split
    · exact (h.tok i).state
    · exact h.tok i
  · obtain ⟨hq, hne⟩ := dend_q D id x hx
    obtain ⟨a1, a2, a3⟩ := h.ids x hq
    rw [dend_len, dend_getD, if_neg (by omega)]
    exact ⟨a1, a2, a3⟩
  · rw [dend_wants] at hk
    by_cases e : id - 1 = i
    · subst e
      exact done2 k (hw k hk)
    · rw [dend_getD, if_neg (by omega)] at hi
      exact done2 k (h.done i hi k hk)
theorem DI.step1 {D : DD} (h : DI D) (id : Nat) (h1 : 1 ≤ id) : DI (fstep D id) := by
  unfold fstep
  split
  · rename_i hr
    refine h.ended id h1 (fun k hk => ?_)
    unfold dready at hr
    rw [Bool.not_eq_true', List.any_eq_false] at hr
    simpa using hr k hk
  · exact h
theorem DI.folds {D : DD} (h : DI D) : ∀ (ids : List Nat), (∀ x ∈ ids, 1 ≤ x ∧ x ≤ D.ts.length) → DI (ids.foldl fstep D) ∧ (ids.foldl fstep D).ts.length = D.ts.length := by
  intro ids
  induction ids generalizing D with
  | nil => exact fun _ => ⟨h, rfl⟩
  | cons x ids ih =>
    intro hr
    have hx := hr x (by simp)
    have := ih (D := fstep D x) (h.step1 x hx.1) (fun y hy => by rw [fstep_len]; exact hr y (by simp [hy]))
    rw [fstep_len] at this
    exact this
theorem DI.flushes {D : DD} (h : DI D) : DI (dflushes D) := by
  rw [dflushes_eq]
  exact (h.folds _ (dwait_range D.ts _)).1
theorem dflushes_len (D : DD) : (dflushes D).ts.length = D.ts.length := by
  rw [dflushes_eq]
  generalize dwaitOf D.ts _ = ids
  induction ids generalizing D with
  | nil => rfl
  | cons x ids ih => rw [List.foldl_cons, ih, fstep_len]
theorem DI.told {D : DD} (h : DI D) (n k : Nat) (s : ByteArray) (hk : k < (D.ts.getD n default).parts.length) (hs : s.size ≤ 1048576) : DI { D with ts := D.ts.set n (ttold (D.ts.getD n default) k s) } := by
  have get : ∀ i, (D.ts.set n (ttold (D.ts.getD n default) k s)).getD i default = if n = i ∧ n < D.ts.length then ttold (D.ts.getD i default) k s else D.ts.getD i default := fun i => by
    rw [getD_set]
    split
    · rename_i e; rw [e.1]
    · rfl
  have st : ∀ i, ((D.ts.set n (ttold (D.ts.getD n default) k s)).getD i default).state = (D.ts.getD i default).state := fun i => by
    rw [get]; split <;> rfl
  have wt : ∀ i, ((D.ts.set n (ttold (D.ts.getD n default) k s)).getD i default).wants = (D.ts.getD i default).wants := fun i => by
    rw [get]; split <;> rfl
  refine ⟨h.fit, h.b32, h.clen, fun i => ?_, h.qb, h.nd, fun x hx => ?_, fun i hi k' hk' => ?_⟩
  · simp only [List.length_set]
    rw [get]
    split
    · rename_i e
      rw [e.1] at hk
      have ht := h.tok i
      have hne : (D.ts.getD i default).parts ≠ [] := by intro e; rw [e] at hk; simp at hk
      refine ⟨by simp only [ttold, List.length_set]; exact ht.few, fun p hp => ?_, ht.wants, fun _ => ht.lone hne, fun _ => by simp only [ttold]; intro e; exact hne (by simpa using congrArg List.length e)⟩
      simp only [ttold] at hp
      rcases List.mem_or_eq_of_mem_set hp with hp | rfl
      · exact ht.got p hp
      · exact ⟨hs, by rw [getD_at _ k hk]; exact (ht.got _ (List.getElem_mem hk)).2⟩
    · exact h.tok i
  · simp only [List.length_set]
    rw [st]
    exact h.ids x hx
  · simp only at hi hk' ⊢
    rw [st] at hi ⊢
    rw [wt] at hk'
    exact h.done i hi k' hk'
theorem dlates_get (ts : List DTask) (l : List Nat) (hl : ∀ x ∈ l, 1 ≤ x) (i : Nat) : (dlates ts l).getD i default = if i + 1 ∈ l ∧ i < ts.length then { ts.getD i default with state := 3 } else ts.getD i default := by
  induction l generalizing ts with
  | nil => simp [dlates]
  | cons x l ih =>
    have hx := hl x (by simp)
    have e : dlates ts (x :: l) = dlates (ts.set (x - 1) { ts.getD (x - 1) default with state := 3 }) l := rfl
    rw [e, ih _ (fun y hy => hl y (by simp [hy])), getD_set, List.length_set]
    by_cases h1 : x - 1 = i ∧ x - 1 < ts.length
    · have h2 : i + 1 = x := by omega
      have h3 : i < ts.length := by omega
      rw [if_pos h1, if_pos (show i + 1 ∈ x :: l ∧ i < ts.length from ⟨by simp [h2], h3⟩), h1.1]
      split <;> rfl
    · rw [if_neg h1]
      by_cases h4 : i < ts.length
      · have h2 : ¬ i + 1 = x := by omega
        by_cases h5 : i + 1 ∈ l
        · rw [if_pos ⟨h5, h4⟩, if_pos ⟨List.mem_cons_of_mem _ h5, h4⟩]
        · rw [if_neg (fun h => h5 h.1), if_neg (fun h => by rcases List.mem_cons.1 h.1 with e | e; exact h2 e; exact h5 e)]
      · rw [if_neg (fun h => h4 h.2), if_neg (fun h => h4 h.2)]
theorem nodup_uniq (q : QL) (hn : (q.map (·.1)).Nodup) : ∀ x ∈ q, ∀ y ∈ q, x.1 = y.1 → x = y := by
  induction q with
  | nil => intro x hx; cases hx
  | cons z q ih =>
    rw [List.map_cons, List.nodup_cons] at hn
    intro x hx y hy e
    rcases List.mem_cons.1 hx with h1 | h1 <;> rcases List.mem_cons.1 hy with h2 | h2
    · rw [h1, h2]
    · exact absurd (List.mem_map.2 ⟨y, h2, by rw [← e, h1]⟩) hn.1
    · exact absurd (List.mem_map.2 ⟨x, h1, by rw [e, h2]⟩) hn.1
    · exact ih hn.2 x h1 y h2 e
theorem DI.tick {D : DD} (h : DI D) (now : Nat) : DI (dtick D now).2 := by
  have hl1 : ∀ x ∈ (qlate D.pat D.q now).1, 1 ≤ x ∧ ∃ y ∈ D.q, y.1 = x ∧ islate D.pat now y = true := fun x hx => by
    unfold qlate at hx
    obtain ⟨y, hy, rfl⟩ := List.mem_map.1 hx
    have hy2 := List.mem_filter.1 hy
    exact ⟨(h.ids y hy2.1).1, y, hy2.1, rfl, hy2.2⟩
  have hq : ∀ x ∈ (qlate D.pat D.q now).2, x ∈ D.q ∧ islate D.pat now x = false := fun x hx => by
    unfold qlate at hx
    have := List.mem_filter.1 hx
    exact ⟨this.1, by simpa using this.2⟩
  have get := fun i => dlates_get D.ts (qlate D.pat D.q now).1 (fun x hx => (hl1 x hx).1) i
  have uniq := nodup_uniq D.q h.nd
  unfold dtick
  refine ⟨h.fit, h.b32, h.clen, fun i => ?_, fun x hx => h.qb x (hq x hx).1, ?_, fun x hx => ?_, fun i hi k hk => ?_⟩
  · simp only [dlates_len]
    rw [get]
    split
    · exact (h.tok i).state
    · exact h.tok i
  · unfold qlate
    exact List.Nodup.sublist (List.Sublist.map _ List.filter_sublist) h.nd
  · obtain ⟨h1, h2⟩ := hq x hx
    obtain ⟨a1, a2, a3⟩ := h.ids x h1
    simp only [dlates_len]
    rw [get, if_neg]
    · exact ⟨a1, a2, a3⟩
    · rintro ⟨e, -⟩
      rw [Nat.sub_add_cancel a1] at e
      obtain ⟨-, y, hy, e2, e3⟩ := hl1 _ e
      rw [uniq y hy x h1 e2, h2] at e3
      cases e3
  · simp only at hi hk ⊢
    rw [get] at hi hk
    by_cases e : i + 1 ∈ (qlate D.pat D.q now).1 ∧ i < D.ts.length
    · rw [if_pos e] at hi
      simp at hi
    · rw [if_neg e] at hi hk
      have h2 := h.done i hi k hk
      rw [get, if_neg]
      · exact h2
      · rintro ⟨e2, -⟩
        have hr := ((h.tok i).wants.2 k hk).1
        rw [Nat.sub_add_cancel hr] at e2
        obtain ⟨-, y, hy, e3, -⟩ := hl1 _ e2
        have := (h.ids y hy).2.2
        rw [e3] at this
        omega
theorem dtick_len (D : DD) (now : Nat) : (dtick D now).2.ts.length = D.ts.length := by unfold dtick; simp only [dlates_len]
theorem DI.new (per blocks most n : Nat) (l : List Nat) (hf : dfit per blocks l.length = true) (hb : blocks < 4294967296) (hl : l.length ≤ 1048576) : DI ⟨per, blocks, l, most, n, [], []⟩ :=
  ⟨hf, hb, hl, (fun i => by simpa using TOk.nil 0), (fun x hx => by cases hx), by simp, (fun x hx => by cases hx), (fun i hi => by simp at hi)⟩
theorem DI.grow {D : DD} (h : DI D) (blocks : Nat) (l : List Nat) (hb : blocks < 4294967296) (hl : l.length ≤ 1048576) : DI (dgrow D blocks l).2 := by
  by_cases e : blocks < D.blocks ∨ dfit D.per blocks l.length = false ∨ l.take D.chunks.length ≠ D.chunks
  · unfold dgrow; rw [if_pos e]; exact h
  · unfold dgrow; rw [if_neg e]
    exact ⟨by
      cases hf : dfit D.per blocks l.length
      · exact absurd (.inr (.inl hf)) e
      · rfl, hb, hl, h.tok, h.qb, h.nd, h.ids, h.done⟩
theorem DI.flush {D : DD} (h : DI D) (now : Nat) (hnow : now < 18446744073709551616) (few : D.ts.length < 1048576) : DI (dflush D now).2.2 := by
  have ha := h.add ⟨[], false, dwaitOf D.ts (·.write), 0⟩ now ⟨Nat.zero_le _, (fun p hp => by cases hp), ⟨dwait_len _ _, dwait_range _ _⟩, (fun e => absurd rfl e), (fun e => by cases e)⟩ hnow few
  unfold dflush
  simp only
  split
  · exact ha.flushes
  · exact ha
theorem asks_tok (chunks : List Nat) (id : Nat) (write : Bool) (data : ByteArray) (a c per n : Nat) (h : ¬ (64 < (split a c per 8).length ∨ (split a c per 8).length = 0)) :
    TOk n ⟨asksOf chunks id write data (split a c per 8) (split a c per 8).length, write, [], 0⟩ := by
  refine ⟨by rw [asksOf_len]; omega, fun p hp => ?_, ⟨Nat.zero_le _, (fun k hk => by cases hk)⟩, fun _ => rfl, fun _ e => ?_⟩
  · unfold asksOf at hp
    obtain ⟨i, hi, rfl⟩ := List.mem_map.1 hp
    have hi' := List.mem_range.1 hi
    have hn := (split_in a c per 8 (split a c per 8)[i] (List.getElem_mem hi')).2.2.1
    refine ⟨Nat.zero_le _, ?_⟩
    show ((split a c per 8).getD i default).n < _
    rw [getD_at _ i hi']
    omega
  · have := congrArg List.length e
    rw [asksOf_len] at this
    simp only [List.length_nil] at this
    omega
theorem DI.begin_ {D : DD} (h : DI D) (a c : Nat) (write : Bool) (data : ByteArray) (now : Nat) (hnow : now < 18446744073709551616) (few : D.ts.length < 1048576) : DI (dbegin D a c write data now).2.2.2 := by
  by_cases h1 : c = 0 ∨ D.blocks < a + c
  · rw [dbegin_30 D a c write data now h1]; exact h
  · by_cases h2 : 64 < (split a c D.per 8).length ∨ (split a c D.per 8).length = 0
    · rw [dbegin_11 D a c write data now h1 h2]; exact h
    · rw [dbegin_ok D a c write data now h1 h2 _ rfl]
      have := h.add _ now (asks_tok D.chunks (D.ts.length + 1) write data a c D.per D.ts.length h2) hnow few
      split <;> exact this
theorem DI.write {D : DD} (h : DI D) (a : Nat) (data : ByteArray) (now : Nat) (hnow : now < 18446744073709551616) (few : D.ts.length < 1048576) : DI (dwrite D a data now).2.2.2 := by
  unfold dwrite
  split
  · exact h
  · split
    · exact h
    · exact h.begin_ _ _ _ _ _ hnow few
theorem DI.toldAll {D : DD} (h : DI D) (id : Nat) (k : Int) (s : ByteArray) (hs : s.size ≤ 1048576) : DI (dtold D id k s).2 ∧ (dtold D id k s).2.ts.length = D.ts.length := by
  by_cases hno : id = 0 ∨ D.ts.length < id
  · rw [dtold_no D id k s hno]; exact ⟨h, rfl⟩
  · obtain ⟨n, rfl⟩ : ∃ n, id = n + 1 := ⟨id - 1, by omega⟩
    have hnl : n < D.ts.length := by omega
    by_cases h1 : D.ts[n].state ≠ 1 ∨ k < 0 ∨ (D.ts[n].parts.length : Int) ≤ k
    · rw [dtold_40 D n k s hnl h1]; exact ⟨h, rfl⟩
    · obtain ⟨kn, rfl⟩ := Int.eq_ofNat_of_zero_le (show 0 ≤ k by omega)
      have hkl : kn < D.ts[n].parts.length := by omega
      have hst : D.ts[n].state = 1 := by omega
      cases ht : D.ts[n].parts[kn].told
      · by_cases hw : D.ts[n].write = true ∨ s.size = 8 * D.ts[n].parts[kn].cnt
        · rw [dtold_ok D n kn s hnl hst hkl ht hw]
          have hd := h.told n kn s (by rw [getD_at _ n hnl]; exact hkl) hs
          rw [getD_at _ n hnl] at hd
          simp only
          split
          · exact ⟨hd, by simp⟩
          · have he : DI (dend { D with ts := D.ts.set n (ttold D.ts[n] kn s) } (n + 1)) := by
              refine hd.ended (n + 1) (by omega) (fun k' hk' => ?_)
              simp only [Nat.add_sub_cancel] at hk'
              rw [getD_set, if_pos ⟨rfl, hnl⟩] at hk'
              have hl := (h.tok n).lone
              rw [getD_at _ n hnl] at hl
              have : (ttold D.ts[n] kn s).wants = [] := hl (by intro e; rw [e] at hkl; simp at hkl)
              rw [this] at hk'
              cases hk'
            exact ⟨he.flushes, by rw [dflushes_len, dend_len]; simp⟩
        · have hw0 : D.ts[n].write = false := by
            cases hh : D.ts[n].write
            · rfl
            · exact absurd (.inl hh) hw
          rw [dtold_2 D n kn s hnl hst hkl ht hw0 (fun e => hw (.inr e))]
          exact ⟨h, rfl⟩
      · rw [dtold_51 D n kn s hnl hst hkl ht]; exact ⟨h, rfl⟩
end Go.Proofs.Ytimdaioojnohmaa

namespace Go.Proofs.Ytimdaioojnohmaa

def openOf (t : DTask) : Nat := if t.state = 1 then (untold t.parts).length else 0
def nopen (ts : List DTask) : Nat := (ts.map openOf).sum
theorem nopen_snoc (ts : List DTask) (t : DTask) : nopen (ts ++ [t]) = nopen ts + openOf t := by
  unfold nopen
  rw [List.map_append, List.sum_append]
  simp
theorem nopen_set (ts : List DTask) (n : Nat) (h : n < ts.length) (t : DTask) : nopen (ts.set n t) + openOf ts[n] = nopen ts + openOf t := by
  induction ts generalizing n with
  | nil => simp at h
  | cons x ts ih =>
    cases n with
    | zero =>
      simp only [List.set_cons_zero, List.getElem_cons_zero, nopen, List.map_cons, List.sum_cons]
      omega
    | succ n =>
      have := ih n (by simpa using h)
      simp only [List.set_cons_succ, List.getElem_cons_succ, nopen, List.map_cons, List.sum_cons] at this ⊢
      omega
theorem out_waits (ts : List DTask) (k : Nat) (hk : k ≤ ts.length) : (outOf ts (waitsTo ts (fun _ => true) k)).length = nopen (ts.take k) := by
  induction k with
  | zero => simp [waitsTo, outOf, nopen]
  | succ k ih =>
    have hlt : k < ts.length := by omega
    have ih := ih (by omega)
    rw [List.take_succ_eq_append_getElem hlt, nopen_snoc, ← ih]
    by_cases hs : ts[k].state = 1
    · rw [waitsTo_hit ts _ k hlt hs rfl, outOf_snoc, List.length_append, Nat.add_sub_cancel, getD_at _ k hlt]
      unfold openOf
      rw [if_pos hs]
    · rw [waitsTo_miss ts _ k hlt (fun e => hs e.1)]
      unfold openOf
      rw [if_neg hs]
      rfl
theorem dopen_len (D : DD) : (dopen D).length = nopen D.ts := by
  rw [dopen_out, ← waitsTo_all, out_waits D.ts _ (Nat.le_refl _), List.take_length]
/-- No call ends what has parts but Told: the flushes leave what is open. -/
theorem dend_nopen (D : DD) (id : Nat) (h1 : 1 ≤ id) (h2 : id ≤ D.ts.length) (hp : untold (D.ts.getD (id - 1) default).parts = []) : nopen (dend D id).ts = nopen D.ts := by
  have hlt : id - 1 < D.ts.length := by omega
  rw [getD_at _ _ hlt] at hp
  have := nopen_set D.ts (id - 1) hlt { D.ts[id - 1] with state := 2 }
  have e1 : openOf D.ts[id - 1] = 0 := by unfold openOf; rw [hp]; simp
  have e2 : openOf { D.ts[id - 1] with state := 2 } = 0 := by unfold openOf; rw [if_neg (by simp)]
  unfold dend
  simp only
  rw [getD_at _ _ hlt]
  rw [e1, e2] at this
  exact this
theorem fstep_parts (D : DD) (id i : Nat) : ((fstep D id).ts.getD i default).parts = (D.ts.getD i default).parts := by
  unfold fstep
  split
  · rw [dend_getD]; split <;> rfl
  · rfl
theorem folds_nopen : ∀ (ids : List Nat) (D : DD), (∀ x ∈ ids, 1 ≤ x ∧ x ≤ D.ts.length ∧ (D.ts.getD (x - 1) default).parts = []) → nopen (ids.foldl fstep D).ts = nopen D.ts := by
  intro ids
  induction ids with
  | nil => intro D _; rfl
  | cons x ids ih =>
    intro D h
    rw [List.foldl_cons, ih (fstep D x) (fun y hy => by rw [fstep_len, fstep_parts]; exact h y (by simp [hy]))]
    obtain ⟨h1, h2, h3⟩ := h x (by simp)
    unfold fstep
    split
    · exact dend_nopen D x h1 h2 (by rw [h3]; rfl)
    · rfl
theorem dflushes_nopen (D : DD) : nopen (dflushes D).ts = nopen D.ts := by
  rw [dflushes_eq]
  refine folds_nopen _ D (fun x hx => ?_)
  obtain ⟨h1, h2⟩ := dwait_range D.ts _ x hx
  refine ⟨h1, h2, ?_⟩
  unfold dwaitOf at hx
  obtain ⟨i, hi, rfl⟩ := List.mem_map.1 hx
  have := (List.mem_filter.1 hi).2
  rw [Bool.and_eq_true] at this
  rw [Nat.add_sub_cancel]
  exact List.eq_nil_of_length_eq_zero (by simpa using this.2)
/-- A call that may be refused: what is refused changes nothing; else a task more, and what is asked is open. -/
def Fair (D : DD) (asks code : Nat) (D' : DD) : Prop := (code ≠ 0 ∧ asks = 0 ∧ D' = D) ∨ (code = 0 ∧ D'.ts.length = D.ts.length + 1 ∧ nopen D'.ts = nopen D.ts + asks)
theorem asksOf_untold (chunks : List Nat) (id : Nat) (write : Bool) (data : ByteArray) (l : List CPart) (k : Nat) : untold (asksOf chunks id write data l k) = asksOf chunks id write data l k := by
  unfold untold
  rw [List.filter_eq_self]
  intro p hp
  unfold asksOf at hp
  obtain ⟨i, _, rfl⟩ := List.mem_map.1 hp
  rfl
theorem dbegin_fair (D : DD) (a c : Nat) (write : Bool) (data : ByteArray) (now : Nat) : Fair D (dbegin D a c write data now).2.1.length (dbegin D a c write data now).2.2.1 (dbegin D a c write data now).2.2.2 := by
  by_cases h1 : c = 0 ∨ D.blocks < a + c
  · rw [dbegin_30 D a c write data now h1]; exact .inl ⟨by simp, rfl, rfl⟩
  · by_cases h2 : 64 < (split a c D.per 8).length ∨ (split a c D.per 8).length = 0
    · rw [dbegin_11 D a c write data now h1 h2]; exact .inl ⟨by simp, rfl, rfl⟩
    · rw [dbegin_ok D a c write data now h1 h2 _ rfl]
      rcases dadd_cases D ⟨asksOf D.chunks (D.ts.length + 1) write data (split a c D.per 8) (split a c D.per 8).length, write, [], 0⟩ now with ⟨e1, e2⟩ | ⟨e1, e2, e3⟩
      · rw [if_pos e1]
        refine .inr ⟨rfl, ?_, ?_⟩
        · rw [e2]; simp
        · rw [e2]
          simp only
          rw [nopen_snoc]
          unfold openOf
          rw [if_pos rfl]
          simp only
          rw [asksOf_untold]
      · rw [if_neg e1]
        exact .inl ⟨e1, rfl, e3⟩
theorem dwrite_fair (D : DD) (a : Nat) (data : ByteArray) (now : Nat) : Fair D (dwrite D a data now).2.1.length (dwrite D a data now).2.2.1 (dwrite D a data now).2.2.2 := by
  unfold dwrite
  split
  · exact .inl ⟨by simp, rfl, rfl⟩
  · split
    · exact .inl ⟨by simp, rfl, rfl⟩
    · exact dbegin_fair _ _ _ _ _ _
theorem dread_fair (D : DD) (a c now : Nat) : Fair D (dread D a c now).2.1.length (dread D a c now).2.2.1 (dread D a c now).2.2.2 := dbegin_fair _ _ _ _ _ _
theorem dflush_fair (D : DD) (now : Nat) : Fair D 0 (dflush D now).2.1 (dflush D now).2.2 := by
  unfold dflush
  simp only
  rcases dadd_cases D ⟨[], false, dwaitOf D.ts (·.write), 0⟩ now with ⟨e1, e2⟩ | ⟨e1, e2, e3⟩
  · rw [if_pos e1]
    refine .inr ⟨e1, ?_, ?_⟩
    · rw [dflushes_len, e2]; simp
    · rw [dflushes_nopen, e2]
      simp only
      rw [nopen_snoc]
      rfl
  · rw [if_neg e1]
    exact .inl ⟨e1, rfl, e3⟩
theorem untold_set (l : List DPart) (k : Nat) (h : k < l.length) (ht : l[k].told = false) (p : DPart) (hp : p.told = true) : (untold (l.set k p)).length + 1 = (untold l).length := by
  induction l generalizing k with
  | nil => simp at h
  | cons x l ih =>
    cases k with
    | zero =>
      simp only [List.getElem_cons_zero] at ht
      simp [untold, ht, hp]
    | succ k =>
      have := ih k (by simpa using h) (by simpa using ht)
      unfold untold at this ⊢
      rw [List.set_cons_succ, List.filter_cons, List.filter_cons]
      split
      · simp only [List.length_cons]; omega
      · exact this
/-- Told: what is told is no more open; else nothing changes. -/
theorem dtold_fair (D : DD) (id : Nat) (k : Int) (s : ByteArray) : ((dtold D id k s).1 ≠ 0 ∧ (dtold D id k s).2 = D) ∨ ((dtold D id k s).1 = 0 ∧ nopen (dtold D id k s).2.ts + 1 = nopen D.ts) := by
  by_cases hno : id = 0 ∨ D.ts.length < id
  · rw [dtold_no D id k s hno]; exact .inl ⟨by simp, rfl⟩
  · obtain ⟨n, rfl⟩ : ∃ n, id = n + 1 := ⟨id - 1, by omega⟩
    have hnl : n < D.ts.length := by omega
    by_cases h1 : D.ts[n].state ≠ 1 ∨ k < 0 ∨ (D.ts[n].parts.length : Int) ≤ k
    · rw [dtold_40 D n k s hnl h1]; exact .inl ⟨by simp, rfl⟩
    · obtain ⟨kn, rfl⟩ := Int.eq_ofNat_of_zero_le (show 0 ≤ k by omega)
      have hkl : kn < D.ts[n].parts.length := by omega
      have hst : D.ts[n].state = 1 := by omega
      cases ht : D.ts[n].parts[kn].told
      · by_cases hw : D.ts[n].write = true ∨ s.size = 8 * D.ts[n].parts[kn].cnt
        · rw [dtold_ok D n kn s hnl hst hkl ht hw]
          have hset := nopen_set D.ts n hnl (ttold D.ts[n] kn s)
          have hu : (untold (ttold D.ts[n] kn s).parts).length + 1 = (untold D.ts[n].parts).length := by
            unfold ttold
            simp only
            exact untold_set _ kn hkl ht _ rfl
          have o1 : openOf D.ts[n] = (untold D.ts[n].parts).length := by unfold openOf; rw [if_pos hst]
          have o2 : openOf (ttold D.ts[n] kn s) = (untold (ttold D.ts[n] kn s).parts).length := by
            unfold openOf
            rw [if_pos (show (ttold D.ts[n] kn s).state = 1 from hst)]
          refine .inr ⟨rfl, ?_⟩
          simp only
          split
          · simp only; omega
          · rename_i hany
            have hnil : untold (ttold D.ts[n] kn s).parts = [] := by
              unfold untold
              rw [List.filter_eq_nil_iff]
              intro p hp e
              exact hany (List.any_eq_true.2 ⟨p, hp, e⟩)
            rw [dflushes_nopen, dend_nopen _ (n + 1) (by omega) (by simp; omega) (by
              simp only [Nat.add_sub_cancel]
              rw [getD_set, if_pos ⟨rfl, hnl⟩]
              exact hnil)]
            simp only
            omega
        · have hw0 : D.ts[n].write = false := by
            cases hh : D.ts[n].write
            · rfl
            · exact absurd (.inl hh) hw
          rw [dtold_2 D n kn s hnl hst hkl ht hw0 (fun e => hw (.inr e))]
          exact .inl ⟨by simp, rfl⟩
      · rw [dtold_51 D n kn s hnl hst hkl ht]; exact .inl ⟨by simp, rfl⟩
end Go.Proofs.Ytimdaioojnohmaa

namespace Go.Proofs.Ytimdaioojnohmaa
open Go.RowKit Go.Maps

def shape (ts : List DTask) : List (Bool × List Nat) := ts.map (fun t => (t.write, t.wants))
theorem shape_len (ts : List DTask) : (shape ts).length = ts.length := by simp [shape]
theorem shape_set (ts : List DTask) (n : Nat) (t : DTask) (h1 : t.write = (ts.getD n default).write) (h2 : t.wants = (ts.getD n default).wants) : shape (ts.set n t) = shape ts := by
  unfold shape
  apply List.ext_getElem?
  intro i
  rw [List.getElem?_map, List.getElem?_map, List.getElem?_set]
  by_cases e : n = i
  · subst e
    by_cases hl : n < ts.length
    · rw [getD_at _ n hl] at h1 h2
      simp [hl, h1, h2]
    · simp [hl]
  · simp [e]
theorem dend_shape (D : DD) (id : Nat) : shape (dend D id).ts = shape D.ts := shape_set D.ts (id - 1) _ rfl rfl
theorem fstep_shape (D : DD) (id : Nat) : shape (fstep D id).ts = shape D.ts := by
  unfold fstep
  split
  · exact dend_shape D id
  · rfl
theorem dflushes_shape (D : DD) : shape (dflushes D).ts = shape D.ts := by
  rw [dflushes_eq]
  generalize dwaitOf D.ts _ = ids
  induction ids generalizing D with
  | nil => rfl
  | cons x ids ih => rw [List.foldl_cons, ih, fstep_shape]
theorem dlates_shape (l : List Nat) (ts : List DTask) : shape (dlates ts l) = shape ts := by
  unfold dlates
  induction l generalizing ts with
  | nil => rfl
  | cons x l ih => rw [List.foldl_cons, ih]; exact shape_set ts (x - 1) _ rfl rfl
theorem dtick_shape (D : DD) (now : Nat) : shape (dtick D now).2.ts = shape D.ts := dlates_shape _ _
theorem dtold_shape (D : DD) (id : Nat) (k : Int) (s : ByteArray) : shape (dtold D id k s).2.ts = shape D.ts := by
  unfold dtold
  split
  · rfl
  · simp only
    split
    · rfl
    · split
      · rfl
      · split
        · rfl
        · split
          · exact shape_set D.ts (id - 1) _ rfl rfl
          · rw [dflushes_shape, dend_shape]
            exact shape_set D.ts (id - 1) _ rfl rfl
theorem dbegin_shape (D : DD) (a c : Nat) (write : Bool) (data : ByteArray) (now : Nat) : ((dbegin D a c write data now).2.2.1 ≠ 0 ∧ (dbegin D a c write data now).2.2.2 = D) ∨
    ((dbegin D a c write data now).2.2.1 = 0 ∧ (dbegin D a c write data now).1 = D.ts.length + 1 ∧ shape (dbegin D a c write data now).2.2.2.ts = shape D.ts ++ [(write, [])]) := by
  by_cases h1 : c = 0 ∨ D.blocks < a + c
  · rw [dbegin_30 D a c write data now h1]; exact .inl ⟨by simp, rfl⟩
  · by_cases h2 : 64 < (split a c D.per 8).length ∨ (split a c D.per 8).length = 0
    · rw [dbegin_11 D a c write data now h1 h2]; exact .inl ⟨by simp, rfl⟩
    · rw [dbegin_ok D a c write data now h1 h2 _ rfl]
      rcases dadd_cases D ⟨asksOf D.chunks (D.ts.length + 1) write data (split a c D.per 8) (split a c D.per 8).length, write, [], 0⟩ now with ⟨e1, e2⟩ | ⟨e1, e2, e3⟩
      · rw [if_pos e1, e2]
        refine .inr ⟨rfl, rfl, ?_⟩
        simp [shape]
      · rw [if_neg e1]
        exact .inl ⟨e1, e3⟩
theorem dwrite_shape (D : DD) (a : Nat) (data : ByteArray) (now : Nat) : ((dwrite D a data now).2.2.1 ≠ 0 ∧ (dwrite D a data now).2.2.2 = D) ∨
    ((dwrite D a data now).2.2.1 = 0 ∧ (dwrite D a data now).1 = D.ts.length + 1 ∧ shape (dwrite D a data now).2.2.2.ts = shape D.ts ++ [(true, [])]) := by
  unfold dwrite
  split
  · exact .inl ⟨by simp, rfl⟩
  · split
    · exact .inl ⟨by simp, rfl⟩
    · exact dbegin_shape _ _ _ _ _ _
theorem dflush_shape (D : DD) (now : Nat) : ((dflush D now).2.1 ≠ 0 ∧ (dflush D now).2.2 = D) ∨
    ((dflush D now).2.1 = 0 ∧ (dflush D now).1 = D.ts.length + 1 ∧ shape (dflush D now).2.2.ts = shape D.ts ++ [(false, dwaitOf D.ts (·.write))]) := by
  unfold dflush
  simp only
  rcases dadd_cases D ⟨[], false, dwaitOf D.ts (·.write), 0⟩ now with ⟨e1, e2⟩ | ⟨e1, e2, e3⟩
  · rw [if_pos e1, dflushes_shape, e2]
    refine .inr ⟨rfl, rfl, ?_⟩
    simp [shape]
  · rw [if_neg e1]
    exact .inl ⟨e1, e3⟩
/-- The writes' numbers. -/
def wrs (sh : List (Bool × List Nat)) : List Nat := ((List.range sh.length).filter (fun i => (sh.getD i (false, [])).1)).map (· + 1)
theorem wrs_snoc (sh : List (Bool × List Nat)) (x : Bool × List Nat) : wrs (sh ++ [x]) = wrs sh ++ if x.1 then [sh.length + 1] else [] := by
  unfold wrs
  rw [List.length_append, List.length_singleton, List.range_succ, List.filter_append, List.map_append]
  congr 1
  · congr 1
    apply List.filter_congr
    intro i hi
    have := List.mem_range.1 hi
    rw [List.getD_eq_getElem?_getD, List.getElem?_append_left this, ← List.getD_eq_getElem?_getD]
  · cases h : x.1 <;> simp [h]
theorem wrs_range (sh : List (Bool × List Nat)) : ∀ x ∈ wrs sh, 1 ≤ x ∧ x ≤ sh.length := by
  intro x hx
  unfold wrs at hx
  obtain ⟨i, hi, rfl⟩ := List.mem_map.1 hx
  have := List.mem_range.1 (List.mem_filter.1 hi).1
  omega
theorem wrs_len (sh : List (Bool × List Nat)) : (wrs sh).length ≤ sh.length := by
  unfold wrs
  rw [List.length_map]
  exact Nat.le_trans (List.length_filter_le _ _) (by simp)
theorem shape_getD (ts : List DTask) (i : Nat) : (shape ts).getD i (false, []) = ((ts.getD i default).write, (ts.getD i default).wants) := by
  unfold shape
  rw [List.getD_eq_getElem?_getD, List.getElem?_map, List.getD_eq_getElem?_getD]
  cases ts[i]? <;> rfl
theorem wrs_open (ts : List DTask) : (wrs (shape ts)).filter (fun id => (ts.getD (id - 1) default).state == 1) = dwaitOf ts (·.write) := by
  unfold wrs dwaitOf
  rw [List.filter_map, List.filter_filter, shape_len]
  congr 1
  apply List.filter_congr
  intro i _
  rw [shape_getD]
  simp
theorem dstate_fst (D : DD) (id : Nat) (h1 : 1 ≤ id) (h2 : id ≤ D.ts.length) : (dstate D id).1 = (D.ts.getD (id - 1) default).state := by
  unfold dstate
  rw [if_neg (by omega)]
  simp only
  split <;> rfl
/-- For whom each flush waits, as the law keeps it. -/
def FW (sh : List (Bool × List Nat)) (lw : Nat → List Nat) : Prop := ∀ id, lw id = [] ∨ (1 ≤ id ∧ id ≤ sh.length ∧ lw id = (sh.getD (id - 1) (false, [])).2)
theorem FW.nil (sh : List (Bool × List Nat)) : FW sh (fun _ => []) := fun _ => .inl rfl
theorem FW.snoc {sh : List (Bool × List Nat)} {lw : Nat → List Nat} (h : FW sh lw) (x : Bool × List Nat) : FW (sh ++ [x]) lw := fun id => by
  rcases h id with h | ⟨h1, h2, h3⟩
  · exact .inl h
  · refine .inr ⟨h1, by simp; omega, ?_⟩
    rw [h3, List.getD_eq_getElem?_getD, List.getD_eq_getElem?_getD, List.getElem?_append_left (by omega)]
theorem FW.flush {sh : List (Bool × List Nat)} {lw : Nat → List Nat} (h : FW sh lw) (l : List Nat) : FW (sh ++ [(false, l)]) (fun id => if id = sh.length + 1 then l else lw id) := fun id => by
  by_cases e : id = sh.length + 1
  · subst e
    refine .inr ⟨by omega, by simp, ?_⟩
    simp
  · simp only [if_neg e]
    exact h.snoc _ id
/-- A disk's rows lie apart from the blocks of X: what is written there leaves it as it was. -/
theorem RX.foreign {X X' : Nat → Prop} {w w' : World} {v : Value} {l : List Nat} (h : RX X w v l) (hk : Keep (fun k => X k) w w') (hX : ∀ k, X' k → X k ∨ w.heap.size ≤ k) : RX X' w' v l := by
  obtain ⟨⟨A, k, rfl, ho⟩, hx⟩ := h
  refine ⟨⟨A, k, rfl, own_keep ho hk (fun b hb e => hx b hb e)⟩, fun b hb e => ?_⟩
  rcases hX b e with e | e
  · exact hx b hb e
  · have := own_lt ho hb
    omega
theorem DAt.foreign {X X' : Nat → Prop} {B hi : Nat} {w w' : World} {g : Nat} {D : DD} (h : DAt X B hi w g D) (hk : Keep (fun k => X k) w w') (hz : ∀ k o, X k → w.heap[k]? = some o → sig o = some 29 ∨ sig o = none) (hX : ∀ k, X' k → X k ∨ w.heap.size ≤ k) : DAt X' B hi w' g D := by
  obtain ⟨qb, C, M, f, lo, tb, hb, hg, hq, h0, hc, hm, hM, hn, ht, hl, hB, hh, hs⟩ := h
  have kz : KeepZ (fun k s => X k ∧ (s = some 29 ∨ s = none)) w w' := Keep.mono hk (fun i hi hx => ⟨w.heap[i], by rw [Array.getElem?_eq_getElem hi], hx, hz i _ hx (Array.getElem?_eq_getElem hi)⟩)
  have hm' : MapP w' M D.ts.length f := by
    obtain ⟨es, c, hb⟩ := hm.at_
    exact hm.block ((hk.blk hb hM.2).trans hb.symm)
  have hM' : B ≤ M ∧ ¬ X' M := ⟨hM.1, fun e => by
    rcases hX M e with e | e
    · exact hM.2 e
    · obtain ⟨es, c, hb⟩ := hm.at_
      have := lt_of_block hb
      omega⟩
  refine ⟨qb, C, M, f, lo, tb, kz.blk hb (fun ⟨_, e⟩ => by rcases e with e | e <;> simp [sig] at e), hg, hq.keep kz (fun k => ⟨fun ⟨_, e⟩ => by rcases e with e | e <;> simp at e, fun ⟨_, e⟩ => by rcases e with e | e <;> simp at e⟩), h0, hc.foreign hk hX, hm', hM', hn, fun i h => ⟨(ht i h).1, ?_⟩, hl, hB, hh, Nat.le_trans hs hk.size⟩
  obtain ⟨t1, t2, A, k, W, hbk, ho, hin, hw⟩ := (ht i h).2
  exact ⟨t1, t2, A, k, W, kz.blk hbk (fun ⟨_, e⟩ => by rcases e with e | e <;> simp [sig] at e), kz.row ho (fun _ _ ⟨_, e⟩ => by rcases e with e | e <;> simp at e), hin, hw.foreign hk hX⟩
end Go.Proofs.Ytimdaioojnohmaa
