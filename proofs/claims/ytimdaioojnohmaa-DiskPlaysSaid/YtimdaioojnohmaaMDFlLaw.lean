/-
  The law DiskFlush walked.
-/
import Derived.Test.YtimdaioojnohmaaMDWrite
import Derived.Test.YtimdaioojnohmaaMDInv
import Derived.Test.YtimdaioojnohmaaMDLives
import Derived.Test.YtimdaioojnohmaaMDOpen
import Derived.Deep.CutBlock
namespace Go.Proofs.Ytimdaioojnohmaa
open Go.RowKit Go.Maps

theorem light_ops {n : Nat} {l : List DOp} (h : lightB n l = true) : l.length ≤ 60 ∧ n ≤ 300 ∧ ∀ x ∈ l, x.data.size ≤ 3000 ∧ x.chunks.length ≤ 300 := by
  unfold lightB at h
  rw [Bool.and_eq_true, Bool.and_eq_true, List.all_eq_true] at h
  refine ⟨by simpa using h.2.1, by simpa using h.2.2, fun x hx => ?_⟩
  have := h.1 x hx
  unfold opLight at this
  simpa using this
def osh : Option DD → List (Bool × List Nat)
  | none => []
  | some D => shape D.ts
theorem osh_len (o : Option DD) : (osh o).length = otasks o := by
  cases o with
  | none => rfl
  | some D => exact shape_len D.ts
theorem owrite_shape (o : Option DD) (a : Nat) (data : ByteArray) (now : Nat) : ((owrite o a data now).2.2.1 ≠ 0 ∧ (owrite o a data now).2.2.2 = o) ∨
    ((owrite o a data now).2.2.1 = 0 ∧ (owrite o a data now).1 = otasks o + 1 ∧ osh (owrite o a data now).2.2.2 = osh o ++ [(true, [])]) := by
  cases o with
  | none => exact .inl ⟨Nat.succ_ne_zero 0, rfl⟩
  | some D =>
    rcases dwrite_shape D a data now with ⟨h1, h2⟩ | h
    · exact .inl ⟨h1, by show some _ = _; rw [h2]⟩
    · exact .inr h
theorem oread_shape (o : Option DD) (a c now : Nat) : osh (oread o a c now).2.2.2 = osh o ∨ osh (oread o a c now).2.2.2 = osh o ++ [(false, [])] := by
  cases o with
  | none => exact .inl rfl
  | some D =>
    rcases dbegin_shape D a c false ByteArray.empty now with ⟨h1, h2⟩ | ⟨h1, h2, h3⟩
    · refine .inl ?_
      show shape (dbegin D a c false ByteArray.empty now).2.2.2.ts = _
      rw [h2]; rfl
    · exact .inr h3
theorem oflush_shape (o : Option DD) (now : Nat) : ((oflush o now).2.1 ≠ 0 ∧ (oflush o now).2.2 = o) ∨
    ((oflush o now).2.1 = 0 ∧ (oflush o now).1 = otasks o + 1 ∧ ∃ D, o = some D ∧ osh (oflush o now).2.2 = osh o ++ [(false, dwaitOf D.ts (·.write))]) := by
  cases o with
  | none => exact .inl ⟨Nat.succ_ne_zero 0, rfl⟩
  | some D =>
    rcases dflush_shape D now with ⟨h1, h2⟩ | ⟨h1, h2, h3⟩
    · exact .inl ⟨h1, by show some _ = _; rw [h2]⟩
    · exact .inr ⟨h1, h2, D, rfl, h3⟩
theorem otold_shape (o : Option DD) (id : Nat) (k : Int) (s : ByteArray) : osh (otold o id k s).2 = osh o := by
  cases o with
  | none => rfl
  | some D => exact dtold_shape D id k s
theorem otick_shape (o : Option DD) (now : Nat) : osh (otick o now).2 = osh o := by
  cases o with
  | none => rfl
  | some D => exact dtick_shape D now
/-- The law's blocks: its row of writes, its map. -/
def XF (v : Value) (M : Nat) : Nat → Prop := fun b => v.ownBlock = some b ∨ b = M
def TU (B : Nat) : Nat → Option TypeId → Prop := fun k s => B ≤ k ∧ s ≠ some 50
theorem TP.tu {X : Nat → Prop} {B : Nat} : ∀ k s, TP X B k s → TU B k s := fun k s ⟨h, e⟩ => ⟨h, by rintro rfl; rcases e with e | e | e | e | e | e <;> simp at e⟩
theorem PD.foreign {X X' : Nat → Prop} {B : Nat} {w w' : World} {p : Value} {o : Option DD} (h : PD X B w p o) (hk : Keep (fun k => X k) w w') (hz : ∀ k ob, X k → w.heap[k]? = some ob → sig ob = some 29 ∨ sig ob = none) (hX : ∀ k, X' k → X k ∨ w.heap.size ≤ k) : PD X' B w' p o := by
  rcases h with h | ⟨g, D, h1, h2, h3, h4⟩
  · exact .inl h
  · exact .inr ⟨g, D, h1, h2, (h3.foreign hk hz hX).up hk.size (Nat.le_refl _), h4⟩
/-- The law's memory: its row of writes, its map and what that holds. -/
structure LF (B M n : Nat) (w : World) (p : Value) (o : Option DD) (v : Value) (f : Nat → Value) (lw : Nat → List Nat) : Prop where
  pd : PD (XF v M) B w p o
  row : w.ownsRow 0 29 1 v (wrs (osh o)).length ((wrs (osh o)).map u64v)
  map : MapV w M n f
  val : ∀ id, RX (XF v M) w (f id) (lw id)
  fw : FW (osh o) lw
  new : ∀ b, XF v M b → B ≤ b
  old : ∀ b, XF v M b → b < w.heap.size
section
variable {B M n : Nat} {w w' : World} {p v : Value} {o o' : Option DD} {f : Nat → Value} {lw : Nat → List Nat}
theorem LF.no (h : LF B M n w p o v f lw) (hk : Keep No w w') : LF B M n w' p o v f lw :=
  ⟨h.pd.no hk, own_keep h.row hk (fun _ _ h => h), h.map.keep hk (fun h => h), fun id => ⟨(h.val id).1.keepZ (T := fun _ _ => False) (KeepZ.of hk) (fun _ h => h), (h.val id).2⟩, h.fw, h.new, fun b hb => Nat.lt_of_lt_of_le (h.old b hb) hk.size⟩
theorem LF.sig (h : LF B M n w p o v f lw) : ∀ k ob, XF v M k → w.heap[k]? = some ob → sig ob = some 29 ∨ sig ob = none := fun k ob hx ho => by
  rcases hx with hx | rfl
  · obtain ⟨cur, hc⟩ := own_blk h.row hx
    rw [ho] at hc
    injection hc with hc
    subst hc
    exact .inl rfl
  · obtain ⟨es, c, hc⟩ := h.map.at_
    rw [ho] at hc
    injection hc with hc
    subst hc
    exact .inr rfl
/-- Behind a call of the disk. -/
theorem LF.call (h : LF B M n w p o v f lw) (hk : KeepZ (TP (XF v M) B) w w') (hpd : PD (XF v M) B w' p o') (hs : wrs (osh o') = wrs (osh o)) (hf : FW (osh o') lw) : LF B M n w' p o' v f lw := by
  have no29 : ∀ k, ¬ TP (XF v M) B k (some 29) := fun k ⟨_, e⟩ => by rcases e with e | e | e | e | e | e <;> simp at e
  obtain ⟨es, c, hb⟩ := h.map.at_
  refine ⟨hpd, ?_, h.map.block ((hk.blk hb (fun ⟨_, e⟩ => ?_)).trans hb.symm), fun id => (h.val id).keepZ hk no29, hf, h.new, fun b hb => Nat.lt_of_lt_of_le (h.old b hb) hk.size⟩
  · rw [hs]
    exact hk.row h.row (fun i _ => no29 i)
  · rcases e with ⟨-, e⟩ | e | e | e | e | e
    · exact e (.inr rfl)
    all_goals simp [Go.Proofs.Ytimdaioojnohmaa.sig] at e
theorem LF.up {m : Nat} (h : LF B M n w p o v f lw) (hm : n ≤ m) : LF B M m w p o v f lw := ⟨h.pd, h.row, h.map.more hm, h.val, h.fw, h.new, h.old⟩
theorem LF.ne (h : LF B M n w p o v f lw) : ¬ Own v M := fun e => by
  obtain ⟨cur, hc⟩ := own_blk h.row e
  obtain ⟨es, c, hm⟩ := h.map.at_
  rw [hm] at hc
  cases hc
/-- Behind a write that has begun, and is kept. -/
theorem LF.write {wa : World} {v' : Value} (h : LF B M n w p o v f lw) (hk : KeepZ (TP (XF v M) B) w wa) (hpd : PD (XF v M) B wa p o') (hsh : osh o' = osh o ++ [(true, [])]) (hka : Keep (Own v) wa w')
    (hown : w'.ownsRow 0 29 1 v' ((wrs (osh o)).length + 1) ((wrs (osh o)).map u64v ++ [u64v (otasks o + 1)])) (hnew : ∀ k, v'.ownBlock = some k → v.ownBlock = some k ∨ wa.heap.size ≤ k) : LF B M n w' p o' v' f lw := by
  have no29 : ∀ k, ¬ TP (XF v M) B k (some 29) := fun k ⟨_, e⟩ => by rcases e with e | e | e | e | e | e <;> simp at e
  have hM : MapV wa M n f := by
    obtain ⟨es, c, hb⟩ := h.map.at_
    refine h.map.block ((hk.blk hb (fun ⟨_, e⟩ => ?_)).trans hb.symm)
    rcases e with ⟨-, e⟩ | e | e | e | e | e
    · exact e (.inr rfl)
    all_goals simp [Go.Proofs.Ytimdaioojnohmaa.sig] at e
  have hrow : wa.ownsRow 0 29 1 v (wrs (osh o)).length ((wrs (osh o)).map u64v) := hk.row h.row (fun i _ => no29 i)
  have hkx : Keep (fun k => XF v M k) wa w' := hka.mono (fun _ _ e => .inl e)
  have hX : ∀ k, XF v' M k → XF v M k ∨ wa.heap.size ≤ k := fun k e => by
    rcases e with e | e
    · rcases hnew k e with e | e
      · exact .inl (.inl e)
      · exact .inr e
    · exact .inl (.inr e)
  have hz : ∀ k ob, XF v M k → wa.heap[k]? = some ob → Go.Proofs.Ytimdaioojnohmaa.sig ob = some 29 ∨ Go.Proofs.Ytimdaioojnohmaa.sig ob = none := fun k ob hx ho => by
    rcases hx with hx | rfl
    · obtain ⟨cur, hc⟩ := own_blk hrow hx
      rw [ho] at hc
      injection hc with hc
      subst hc
      exact .inl rfl
    · obtain ⟨es, c, hc⟩ := hM.at_
      rw [ho] at hc
      injection hc with hc
      subst hc
      exact .inr rfl
  have hw : wrs (osh o') = wrs (osh o) ++ [otasks o + 1] := by rw [hsh, wrs_snoc, osh_len]; rfl
  have hle : w.heap.size ≤ wa.heap.size := hk.size
  refine ⟨hpd.foreign hkx hz hX, ?_, hM.keep hka h.ne, fun id => ((h.val id).keepZ hk no29).foreign hkx hX, by rw [hsh]; exact h.fw.snoc _, fun b hb => ?_, fun b hb => ?_⟩
  · rw [hw, List.length_append, List.map_append]
    exact hown
  · rcases hX b hb with e | e
    · exact h.new b e
    · have h1 := h.new M (.inr rfl)
      have h2 := h.old M (.inr rfl)
      omega
  · rcases hb with hb | rfl
    · exact own_lt hown hb
    · have h2 := h.old b (.inr rfl)
      have := hka.size
      omega
/-- Behind a flush that has begun, and for whom it waits is kept. -/
theorem LF.flush {wa : World} {vo : Value} {l : List Nat} (h : LF B M n w p o v f lw) (hk : KeepZ (TP (XF v M) B) w wa) (hpd : PD (XF v M) B wa p o') (hsh : osh o' = osh o ++ [(false, l)]) (hvo : RX (XF v M) wa vo l) (hka : Keep (fun k => k = M) wa w')
    (hmap : MapV w' M (n + 1) (fun j => if j = otasks o + 1 then vo else f j)) : LF B M (n + 1) w' p o' v (fun j => if j = otasks o + 1 then vo else f j) (fun j => if j = otasks o + 1 then l else lw j) := by
  have no29 : ∀ k, ¬ TP (XF v M) B k (some 29) := fun k ⟨_, e⟩ => by rcases e with e | e | e | e | e | e <;> simp at e
  have hrow : wa.ownsRow 0 29 1 v (wrs (osh o)).length ((wrs (osh o)).map u64v) := hk.row h.row (fun i _ => no29 i)
  have hkx : Keep (fun k => XF v M k) wa w' := hka.mono (fun _ _ e => .inr e)
  have hX : ∀ k, XF v M k → XF v M k ∨ wa.heap.size ≤ k := fun k e => .inl e
  have hMb : ∃ es c, wa.heap[M]? = some (.map es c) := by
    obtain ⟨es, c, hb⟩ := h.map.at_
    refine ⟨es, c, hk.blk hb (fun ⟨_, e⟩ => ?_)⟩
    rcases e with ⟨-, e⟩ | e | e | e | e | e
    · exact e (.inr rfl)
    all_goals simp [Go.Proofs.Ytimdaioojnohmaa.sig] at e
  have hz : ∀ k ob, XF v M k → wa.heap[k]? = some ob → Go.Proofs.Ytimdaioojnohmaa.sig ob = some 29 ∨ Go.Proofs.Ytimdaioojnohmaa.sig ob = none := fun k ob hx ho => by
    rcases hx with hx | rfl
    · obtain ⟨cur, hc⟩ := own_blk hrow hx
      rw [ho] at hc
      injection hc with hc
      subst hc
      exact .inl rfl
    · obtain ⟨es, c, hc⟩ := hMb
      rw [ho] at hc
      injection hc with hc
      subst hc
      exact .inr rfl
  have hw : wrs (osh o') = wrs (osh o) := by rw [hsh, wrs_snoc]; simp
  refine ⟨hpd.foreign hkx hz hX, ?_, hmap, fun id => ?_, ?_, h.new, fun b hb => ?_⟩
  · rw [hw]
    exact own_keep hrow hka (fun k hk' e => h.ne (by subst e; exact hk'))
  · by_cases e : id = otasks o + 1
    · simp only [if_pos e]
      exact hvo.foreign hkx hX
    · simp only [if_neg e]
      exact ((h.val id).keepZ hk no29).foreign hkx hX
  · have := h.fw.flush l
    rw [osh_len] at this
    rw [hsh]
    exact this
  · have h2 := h.old b hb
    have h3 := hk.size
    have h4 := hka.size
    omega
/-- What waits of the writes. -/
def waitsOf (o : Option DD) (l : List Nat) : List Nat := l.filter (fun id => (ostate o id).1 == 1)
theorem waitsOf_all (D : DD) : waitsOf (some D) (wrs (osh (some D))) = dwaitOf D.ts (·.write) := by
  rw [← wrs_open]
  unfold waitsOf
  apply List.filter_congr
  intro x hx
  have := wrs_range _ x hx
  rw [osh_len] at this
  show ((dstate D x).1 == 1) = _
  rw [dstate_fst D x this.1 this.2]
end
set_option maxRecDepth 100000 in
set_option maxHeartbeats 8000000 in
theorem diskFlush_any (per blocks : Nat) (a : Int) (n : Nat) (v2 v5 : Value) (l2 : List Nat) (l : List DOp) (w : World) (hp : per < 4294967296) (hb : blocks < 4294967296) (h2 : Rd w v2 l2.length (l2.map u64v)) (ha : -9223372036854775808 ≤ a ∧ a ≤ 9223372036854775807) (hn : n < 18446744073709551616)
    (h5 : Rd w v5 l.length (l.flatMap opcells8)) (hok : ∀ x ∈ l, DOpOk w x) (hl : l.length ≤ maxLen) :
    Calls Try.prog 13 #[.int .u32 (per : Nat), .int .u32 (blocks : Nat), v2, .int .i64 a, .int .u64 (n : Nat), v5] w fun e w' => e = .returned (.bool true) ∧ Keep No w w' := by
  obtain ⟨A2, c2, rfl, hlc2, -⟩ := id h2
  obtain ⟨A, c, rfl, hlc, -⟩ := id h5
  have HLT := Lib.hid (light_any A2 l2.length c2 _ l w h5 hok hl)
  have HLV := Lib.hid lives39_any
  have HNEW := Lib.hid (fun W hk hm => pd_new (X := No) per blocks n a _ l2 W hp hb hn ha (h2.keep hk) hm (fun _ h => h.elim))
  have H := Lib.hid h5
  have HOK := Lib.hid hok
  have hlt0 := @light_ops l2.length l
  have HLO := Lib.hid hlt0
  unfold maxLen at hl
  have hmm := @run_makeMap Try.prog
  clear h2 h5 hok hp hb hlt0 ha hn
  generalize lightB l2.length l = lb at *
  go_enter Try.func13, Try.ntmps13
  go_wp2_with fail
  refine HLT.out.mono ?_
  rintro e w1 ⟨rfl, k1⟩
  have K1 := Lib.hid k1
  clear k1
  cases lb
  · go_wp2_with fail
    refine (HLV.out _).mono ?_
    rintro e w2 ⟨rfl, k3⟩
    go_wp2_with fail
    go_ret
    exact ⟨rfl, K1.out.trans k3⟩
  obtain ⟨hl60, hn300, hsm⟩ := HLO.out rfl
  have HSM := Lib.hid hsm
  clear hsm HLO
  go_wp2_with fail
  refine (HNEW.out _ K1.out (by omega)).mono ?_
  rintro e w2 ⟨p, o0, rfl, hpd, k2, ho0⟩
  obtain ⟨B, hB⟩ : ∃ B, B = w1.heap.size := ⟨_, rfl⟩
  rw [← hB] at hpd
  have hwB : w.heap.size ≤ B := by rw [hB]; exact K1.out.size
  have hB2 : B ≤ w2.heap.size := by rw [hB]; exact k2.size
  have hot : otasks o0 = 0 ∧ wrs (osh o0) = [] ∧ (osh o0) = [] := by rw [ho0]; split <;> exact ⟨rfl, rfl, rfl⟩
  have K2 := Lib.hid (K1.out.trans k2)
  obtain ⟨M, hM⟩ : ∃ M, M = (w2.alloc (.cells #[] 29)).heap.size := ⟨_, rfl⟩
  have hM1 : M = w2.heap.size + 1 := by rw [hM]; exact World.size_alloc _ _
  obtain ⟨W3, hW3⟩ : ∃ W3, W3 = (w2.alloc (.cells #[] 29)).alloc (.map #[] 0) := ⟨_, rfl⟩
  have k23 : Keep No w2 W3 := by rw [hW3]; exact ((Keep.refl _ _).alloc _).alloc _
  have hsz3 : W3.heap.size = w2.heap.size + 2 := by rw [hW3]; simp
  have hown : ∀ b, XF (.slice (some ⟨w2.heap.size, 0, none⟩) 0 0) M b → b = w2.heap.size ∨ b = M := fun b hb => by
    rcases hb with hb | hb
    · simp [Value.ownBlock] at hb
      exact .inl hb.symm
    · exact .inr hb
  have hL0 : LF B M 0 W3 p o0 (.slice (some ⟨w2.heap.size, 0, none⟩) 0 0) (fun _ => .slice none 0 0) (fun _ => []) := by
    refine ⟨hpd.foreign (X' := XF (.slice (some ⟨w2.heap.size, 0, none⟩) 0 0) M) k23 (fun k ob h => h.elim) (fun k hk => .inr (by rcases hown k hk with e | e <;> omega)), ?_, ?_, fun id => RX.nil _ _, ?_, fun b hb => by rcases hown b hb with e | e <;> omega, fun b hb => by rcases hown b hb with e | e <;> omega⟩
    · rw [hot.2.1, hW3]
      exact ⟨rfl, .inr ⟨w2.heap.size, 0, #[], rfl, Nat.zero_le _, blk_old (blk_at _ _ rfl) _, Nat.le_refl _, Nat.zero_le _, rfl, rfl⟩⟩
    · rw [hW3, hM]
      exact MapV.made _
    · exact FW.nil _
  have HL0 := Lib.hid hL0
  have HOT := Lib.hid hot
  have HW3 := Lib.hid hW3
  have HM1 := Lib.hid hM1
  have K3 := Lib.hid (K2.out.trans k23)
  clear hpd hB k2 hot ho0 hM hM1 hW3 k23 hsz3 hown hL0
  go_upto_region 5 with fail
  rw [← HW3.out, ← HM1.out]
  go_wp2_with fail
  go_loopw [14, 50] (fun ov iv wr => ∃ i o Ao ko f lw, i ≤ l.length ∧ iv = .int .i64 (i : Nat) ∧ ov = .slice Ao (wrs (osh o)).length ko ∧ Hid (LF B M i wr p o (.slice Ao (wrs (osh o)).length ko) f lw) ∧ otasks o ≤ i ∧ KeepZ (TU B) W3 wr) (fun _ iv _ => l.length - (intOf iv).toNat)
  case atStart =>
    refine ⟨0, o0, some ⟨w2.heap.size, 0, none⟩, 0, fun _ => .slice none 0 0, fun _ => [], Nat.zero_le _, rfl, ?_, ?_, by have := HOT.out.1; omega, KeepZ.refl _ _⟩
    · rw [HOT.out.2.1]; rfl
    · rw [HOT.out.2.1]; exact HL0
  case round =>
    obtain ⟨i, o, Ao, ko, f, lw, hi, rfl, rfl, hlf, hti, hk⟩ := hrel
    have HKR := Lib.hid hk
    by_cases hlt : i < l.length
    case neg =>
      clear hk
      go_wp2_with fail
      refine (HLV.out _).mono ?_
      rintro e w3 ⟨rfl, k3⟩
      go_wp2_with fail
      go_ret
      exact ⟨rfl, (((KeepZ.of (T := TU B) K3.out).trans HKR.out).no (fun k s h => Nat.le_trans hwB h.1)).trans k3⟩
    have kw : Keep No w wr := ((KeepZ.of (T := TU B) K3.out).trans hk).no (fun k s h => Nat.le_trans hwB h.1)
    obtain ⟨b, oo, c', hv, hc', x0, x1, x2, x3, x4, x5, x6, x7⟩ := (H.out.keep kw).dop i hlt
    injection hv with hA _ hcc
    subst hA hcc
    have hopk := HOK.out l[i] (List.getElem_mem hlt)
    have hsm := HSM.out l[i] (List.getElem_mem hlt)
    have hlf1 := hlf.out.no ((Keep.refl No wr).alloc (.cells (opcells8 l[i]).toArray 50))
    have hka := hk.alloc (.cells (opcells8 l[i]).toArray 50)
    have hblk := blk_at wr (.cells (opcells8 l[i]).toArray 50) rfl
    have hpart := hopk.part
    have htask := hopk.task
    have hnow := hopk.now
    have hfrm := hopk.frm
    have hcnt := hopk.cnt
    have hchv := hopk.ch
    clear hk kw hopk hlf
    generalize l[i] = x at *
    obtain ⟨kind, frm, cnt, data, task, part, now, ch, chunks⟩ := x
    simp only at x0 x1 x2 x3 x4 x5 x6 x7 hsm htask hnow hfrm hcnt hpart hchv
    obtain ⟨A7, c7, rfl, -, -⟩ := hchv
    change LF B M i (wr.alloc (.cells #[.int .i64 kind, .int .u32 (frm : Nat), .int .u32 (cnt : Nat), .string data, .int .u64 (task : Nat), .int .i64 part, .int .u64 (now : Nat), .slice A7 chunks.length c7] 50)) p o _ f lw at hlf1
    change KeepZ (TU B) W3 (wr.alloc (.cells #[.int .i64 kind, .int .u32 (frm : Nat), .int .u32 (cnt : Nat), .string data, .int .u64 (task : Nat), .int .i64 part, .int .u64 (now : Nat), .slice A7 chunks.length c7] 50)) at hka
    change (wr.alloc (.cells #[.int .i64 kind, .int .u32 (frm : Nat), .int .u32 (cnt : Nat), .string data, .int .u64 (task : Nat), .int .i64 part, .int .u64 (now : Nat), .slice A7 chunks.length c7] 50)).heap[wr.heap.size]? = _ at hblk
    have HLF := Lib.hid hlf1
    have HKA := Lib.hid hka
    have HBLK := Lib.hid hblk
    clear hlf1 hka hblk
    generalize hW0 : wr.alloc (.cells #[.int .i64 kind, .int .u32 (frm : Nat), .int .u32 (cnt : Nat), .string data, .int .u64 (task : Nat), .int .i64 part, .int .u64 (now : Nat), .slice A7 chunks.length c7] 50) = W0 at *
    generalize hob : wr.heap.size = ob at *
    have HW0 := Lib.hid hW0
    have HOB := Lib.hid hob
    clear hW0 hob
    obtain ⟨y0, y1, y2, y3, y4, y5, y6, y7⟩ := op_cells HBLK.out
    try simp only at y0 y1 y2 y3 y4 y5 y6 y7
    go_upto_region 8 with fail
    rw [HW0.out, HOB.out]
    clear x0 x1 x2 x3 x4 x5 x6 x7
    go_upto_block 2 with fail
    go_cut [14] (fun ov wx => ∃ o2 A3 k3 f2 lw2, ov = .slice A3 (wrs (osh o2)).length k3 ∧ Hid (LF B M (i + 1) wx p o2 (.slice A3 (wrs (osh o2)).length k3) f2 lw2) ∧ otasks o2 ≤ i + 1 ∧ Hid (KeepZ (TU B) W3 wx))
    case first =>
      by_cases q0 : kind = 0
      · subst q0
        have HC := Lib.hid (pd_write frm now data HLF.out.pd (by omega) hfrm (by omega) hnow)
        have HS := owrite_shape o frm data now
        generalize owrite o frm data now = r at *
        obtain ⟨rid, asks, code, o2⟩ := r
        simp only at HC HS
        have HSS := Lib.hid HS
        clear HS
        go_wp2_with fail
        refine HC.out.mono ?_
        rintro e w4 ⟨v4, rfl, hv4, hpd4, k4⟩
        obtain ⟨A4, k44, rfl, -, -⟩ := hv4
        clear y0 y1 y2 y3 y4 y5 y6 y7 HC
        have HK4 := Lib.hid (HKA.out.trans (k4.mono TP.tu))
        have HKZ := Lib.hid k4
        have HPD4 := Lib.hid hpd4
        clear k4 hpd4
        rcases HSS.out with ⟨f1, f2⟩ | ⟨f1, f2, f3⟩
        · have e0 : ((code : Int) == 0) = false := beq_eq_false_iff_ne.2 (by omega)
          subst f2
          clear f1
          go_wp2_with fail
          go_meet
          exact ⟨o2, Ao, ko, f, lw, rfl, (HLF.out.call HKZ.out HPD4.out rfl HLF.out.fw).up (Nat.le_succ _), by omega, HK4.out⟩
        · subst f1 f2
          have F3 := Lib.hid f3
          clear f3
          have hrow : w4.ownsRow 0 29 1 (.slice Ao (wrs (osh o)).length ko) (wrs (osh o)).length ((wrs (osh o)).map u64v) := HKZ.out.row HLF.out.row (fun i _ ⟨_, e⟩ => by rcases e with e | e | e | e | e | e <;> simp at e)
          have hwn : (w4.alloc (.cells #[.int .u64 ((otasks o : Int) + 1)] 29)).ownsRow 0 29 1 (.slice Ao (wrs (osh o)).length ko) (wrs (osh o)).length ((wrs (osh o)).map u64v) := hrow.alloc _
          have hso : Sl (w4.alloc (.cells #[.int .u64 ((otasks o : Int) + 1)] 29)) (.slice (some ⟨w4.heap.size, 0, none⟩) 1 1) 1 ([otasks o + 1].map u64v) := Sl.lit _ #[.int .u64 ((otasks o : Int) + 1)] 29 1
          have hone := u64v_one [otasks o + 1]
          have hwl := wrs_len (osh o)
          rw [osh_len] at hwl
          have h63 : (wrs (osh o)).length + 1 ≤ maxLen := by simp only [maxLen]; omega
          have HKZ5 := Lib.hid (HKZ.out.alloc (.cells #[.int .u64 ((otasks o : Int) + 1)] 29))
          have HPD5 := Lib.hid (HPD4.out.no ((Keep.refl _ _).alloc (.cells #[.int .u64 ((otasks o : Int) + 1)] 29)))
          have HK5 := Lib.hid (HK4.out.alloc (.cells #[.int .u64 ((otasks o : Int) + 1)] 29))
          have hlb : (wrs (osh o)).length ≤ 100 := by omega
          have HT2 : Hid (otasks o2 = otasks o + 1) := by show _ = _; rw [← osh_len, F3.out, ← osh_len o]; simp
          have HW2 : Hid ((wrs (osh o2)).length = (wrs (osh o)).length + 1) := by show _ = _; rw [F3.out, wrs_snoc]; simp
          clear hrow
          go_wp2_with (at_builtin; refine wpList_app rfl _ _ 41 rfl 29 _ 1 8 Try.underlying41 Try.info29 rfl (by decide) _ (wrs (osh o)).length _ hwn rfl _ 1 ([otasks o + 1].map u64v) hso rfl rfl hone (by omega) h63 ?_; intro A' k' w' ho' hk' hn')
          go_meet
          have hlf := HLF.out.write HKZ5.out HPD5.out F3.out hk' ho' (fun k hk => (hn' k hk).imp id (fun h => h.1))
          refine ⟨o2, A', k', f, lw, by rw [HW2.out], by rw [HW2.out]; exact hlf.up (Nat.le_succ _), by rw [HT2.out]; omega, HK5.out.trans ((KeepZ.refl _ _).own hwn hk' (fun i hi => ⟨HLF.out.new i (.inl hi), by simp⟩))⟩
      by_cases q1 : kind = 1
      · subst q1
        have HC := Lib.hid (pd_read frm cnt now HLF.out.pd (by omega) hfrm hcnt hnow)
        have HS := oread_shape o frm cnt now
        generalize oread o frm cnt now = r at *
        obtain ⟨rid, asks, code, o2⟩ := r
        simp only at HC HS
        have HSS := Lib.hid HS
        clear HS
        go_wp2_with fail
        refine HC.out.mono ?_
        rintro e w4 ⟨v4, rfl, hv4, hpd4, k4⟩
        obtain ⟨A4, k44, rfl, -, -⟩ := hv4
        have HKZ := Lib.hid k4
        have HPD4 := Lib.hid hpd4
        have hh : wrs (osh o2) = wrs (osh o) ∧ FW (osh o2) lw ∧ otasks o2 ≤ otasks o + 1 := by
          rcases HSS.out with h | h
          · rw [← osh_len o2, h, osh_len]; exact ⟨rfl, HLF.out.fw, by omega⟩
          · rw [← osh_len o2, h]; exact ⟨by rw [wrs_snoc]; simp, HLF.out.fw.snoc _, by rw [List.length_append, osh_len]; simp⟩
        have HH := Lib.hid hh
        clear y0 y1 y2 y3 y4 y5 y6 y7 HC k4 hpd4 hh
        go_wp2_with fail
        go_meet
        have hlf := HLF.out.call HKZ.out HPD4.out HH.out.1 HH.out.2.1
        exact ⟨o2, Ao, ko, f, lw, by rw [HH.out.1], by rw [HH.out.1]; exact hlf.up (Nat.le_succ _), by have := HH.out.2.2; omega, HKA.out.trans (HKZ.out.mono TP.tu)⟩
      by_cases q2 : kind = 2
      · subst q2
        have hwl := wrs_len (osh o)
        rw [osh_len] at hwl
        have hwr := wrs_range (osh o)
        rw [osh_len] at hwr
        have HWR := Lib.hid hwr
        have HWL := Lib.hid hwl
        have hrow64 : N64 W0 (.slice Ao (wrs (osh o)).length ko) (wrs (osh o)) := Sl.of_own HLF.out.row
        have HROW := Lib.hid hrow64
        clear hwr hrow64 y0 y1 y2 y3 y4 y5
        go_wp2_with fail
        go_loopw [21, 94] (fun ov iv wr => ∃ t A8 k8, t ≤ (wrs (osh o)).length ∧ iv = .int .i64 (t : Nat) ∧ ov = .slice A8 (waitsOf o ((wrs (osh o)).take t)).length k8 ∧
          wr.ownsRow 0 29 1 (.slice A8 (waitsOf o ((wrs (osh o)).take t)).length k8) (waitsOf o ((wrs (osh o)).take t)).length ((waitsOf o ((wrs (osh o)).take t)).map u64v) ∧ (∀ b, (Value.slice A8 (waitsOf o ((wrs (osh o)).take t)).length k8).ownBlock = some b → W0.heap.size ≤ b) ∧ Keep No W0 wr) (fun _ iv _ => (wrs (osh o)).length - (intOf iv).toNat)
        case atStart => exact ⟨0, none, 0, Nat.zero_le _, rfl, rfl, World.ownsRow_nil _ _ _ _, fun b hb => by simp [Value.ownBlock] at hb, Keep.refl _ _⟩
        case round =>
          obtain ⟨t, A8, k8, ht, rfl, rfl, ho8, hA8, hk8⟩ := hrel
          by_cases htl : t < (wrs (osh o)).length
          · obtain ⟨b9, o9, c9, hv9, hc9, hcell⟩ := (show N64 wr _ _ from Sl.keep HROW.out hk8 (fun _ _ h => h)).at_ t htl
            injection hv9 with hA9 _ hcc9
            subst hA9 hcc9
            have hr9 := HWR.out _ (List.getElem_mem htl)
            have htake : (wrs (osh o)).take (t + 1) = (wrs (osh o)).take t ++ [(wrs (osh o))[t]] := List.take_succ_eq_append_getElem htl
            have hw8 : waitsOf o ((wrs (osh o)).take (t + 1)) = waitsOf o ((wrs (osh o)).take t) ++ if (ostate o (wrs (osh o))[t]).1 == 1 then [(wrs (osh o))[t]] else [] := by
              rw [htake]
              unfold waitsOf
              rw [List.filter_append]
              congr 1
              cases h : ((ostate o (wrs (osh o))[t]).1 == 1) <;> simp [h]
            have HW8 := Lib.hid hw8
            have hlen8 : (waitsOf o ((wrs (osh o)).take t)).length ≤ 100 := by
              refine Nat.le_trans (List.length_filter_le _ _) ?_
              rw [List.length_take]
              omega
            clear htake hw8
            generalize hx9 : (wrs (osh o))[t] = x9 at *
            clear hx9
            generalize waitsOf o ((wrs (osh o)).take t) = L8 at *
            have HS9 := Lib.hid (pd_state x9 (HLF.out.no hk8).pd (by omega))
            have HLF9 := Lib.hid (HLF.out.no hk8)
            by_cases hs9 : (ostate o x9).1 = 1
            · rw [hs9] at HS9 HW8
              clear hs9
              go_wp2_with fail
              refine HS9.out.mono ?_
              rintro e w6 ⟨rfl, k6⟩
              have hwn : (w6.alloc (.cells #[.int .u64 (x9 : Nat)] 29)).ownsRow 0 29 1 (.slice A8 L8.length k8) L8.length (L8.map u64v) := (own_keep ho8 k6 (fun _ _ h => h)).alloc _
              have hso : Sl (w6.alloc (.cells #[.int .u64 (x9 : Nat)] 29)) (.slice (some ⟨w6.heap.size, 0, none⟩) 1 1) 1 ([x9].map u64v) := Sl.lit _ #[.int .u64 (x9 : Nat)] 29 1
              have hone := u64v_one [x9]
              have h63 : L8.length + 1 ≤ maxLen := by simp only [maxLen]; omega
              have kn : Keep No W0 (w6.alloc (.cells #[.int .u64 (x9 : Nat)] 29)) := (hk8.trans k6).alloc _
              clear k6
              go_wp2_with (at_builtin; refine wpList_app rfl _ _ 41 rfl 29 _ 1 8 Try.underlying41 Try.info29 rfl (by decide) _ L8.length _ hwn rfl _ 1 ([x9].map u64v) hso rfl rfl hone (by omega) h63 ?_; intro A' k' w' ho' hk' hn')
              refine ⟨⟨t + 1, A', k', by omega, by simp, by rw [HW8.out]; simp, ?_, ?_, kn.fresh hk' hA8⟩, by simp [intOf]; omega⟩
              · rw [HW8.out]
                simp only [beq_self_eq_true, if_true, List.length_append, List.map_append]
                exact ho'
              · intro b hb
                rw [HW8.out] at hb
                simp only [beq_self_eq_true, if_true, List.length_append] at hb
                rcases hn' b hb with e | e
                · exact hA8 b e
                · have := kn.size; omega
            · have e9 : (((ostate o x9).1 : Int) == 1) = false := beq_eq_false_iff_ne.2 (by omega)
              have e8 : ((ostate o x9).1 == 1) = false := beq_eq_false_iff_ne.2 hs9
              have HE8 := Lib.hid e8
              clear e8 hs9
              go_wp2_with fail
              refine HS9.out.mono ?_
              rintro e w6 ⟨rfl, k6⟩
              go_wp2_with fail
              refine ⟨⟨t + 1, A8, k8, by omega, by simp, by rw [HW8.out, HE8.out]; simp, ?_, ?_, hk8.trans k6⟩, by simp [intOf]; omega⟩
              · rw [HW8.out, HE8.out]
                simpa using own_keep ho8 k6 (fun _ _ h => h)
              · rw [HW8.out, HE8.out]
                simpa using hA8
          · obtain rfl : t = (wrs (osh o)).length := by omega
            rw [List.take_length] at ho8 hA8 ⊢
            have HLF9 := Lib.hid (HLF.out.no hk8)
            have hx8 := fun k (hk : XF (.slice Ao (wrs (osh o)).length ko) M k) => HLF9.out.old k hk
            have HC := Lib.hid (pd_flush now HLF9.out.pd (by omega) hnow hx8)
            have hw8o : ∀ D, o = some D → waitsOf o (wrs (osh o)) = dwaitOf D.ts (·.write) := fun D e => by subst e; exact waitsOf_all D
            have HW8 := Lib.hid hw8o
            have hx9 : RX (XF (.slice Ao (wrs (osh o)).length ko) M) wr (.slice A8 (waitsOf o (wrs (osh o))).length k8) (waitsOf o (wrs (osh o))) := ⟨⟨A8, k8, rfl, ho8⟩, fun k hk e => by
              have h1 := hA8 k hk
              have h2 := HLF.out.old k e
              omega⟩
            have HX9 := Lib.hid hx9
            have HS := oflush_shape o now
            clear hx8 hw8o hx9 ho8 hA8
            generalize hL8 : waitsOf o (wrs (osh o)) = L8 at *
            have HL8 := Lib.hid hL8
            clear hL8
            generalize oflush o now = r at *
            obtain ⟨rid, code, o2⟩ := r
            simp only at HC HS
            have HSS := Lib.hid HS
            clear HS
            have y6 := hk8.cellSome y6 (fun h => h)
            have HK8 := Lib.hid hk8
            clear hk8
            go_wp2_with fail
            refine HC.out.mono ?_
            rintro e w4 ⟨rfl, hpd4, k4⟩
            have HKZ := Lib.hid k4
            have HPD4 := Lib.hid hpd4
            have HKT := Lib.hid ((HKA.out.then HK8.out).trans (k4.mono TP.tu))
            clear k4 hpd4 HC y6 y7
            rcases HSS.out with ⟨f1, f2⟩ | ⟨f1, f2, D, hD, f3⟩
            · have e0 : ((code : Int) == 0) = false := beq_eq_false_iff_ne.2 (by omega)
              subst f2
              clear f1
              go_wp2_with fail
              go_meet
              exact ⟨o2, Ao, ko, f, lw, rfl, (HLF9.out.call HKZ.out HPD4.out rfl HLF9.out.fw).up (Nat.le_succ _), by omega, HKT.out⟩
            · subst f1 f2
              rw [← HW8.out D hD] at f3
              have F3 := Lib.hid f3
              have HT2 : Hid (otasks o2 = otasks o + 1) := by show _ = _; rw [← osh_len, f3, ← osh_len o]; simp
              have HW2 : Hid (wrs (osh o2) = wrs (osh o)) := by show _ = _; rw [f3, wrs_snoc]; simp
              have hm4 : MapV w4 M i f := (HLF9.out.call HKZ.out HPD4.out HW2.out (by rw [F3.out]; exact HLF9.out.fw.snoc _)).map
              have hvo := HX9.out.keepZ HKZ.out (fun k ⟨_, e⟩ => by rcases e with e | e | e | e | e | e <;> simp at e)
              have HM4 := Lib.hid hm4
              have HVO := Lib.hid hvo
              have hid64 : otasks o + 1 < 18446744073709551616 := by omega
              have hn60 : i < maxLen := by simp only [maxLen]; omega
              clear f3 hD hm4 hvo
              go_wp2_with (at_mapUpdate; refine wpList_keepV _ rfl _ _ _ rfl M i f rfl HM4.out hn60 (otasks o + 1) (.slice A8 L8.length k8) hid64 rfl rfl ?_; intro w7 hm7 hk7)
              go_meet
              have hlf := HLF9.out.flush HKZ.out HPD4.out F3.out HVO.out hk7 hm7
              refine ⟨o2, Ao, ko, _, _, by rw [HW2.out], by rw [HW2.out]; exact hlf, by rw [HT2.out]; omega, ?_⟩
              refine HKT.out.trans (Keep.mono hk7 (fun k hk e => ?_))
              obtain ⟨es, cc, hb⟩ := HM4.out.at_
              subst e
              exact ⟨_, hb, HLF.out.new _ (.inr rfl), by simp [sig]⟩
      have u0 : (kind == 0) = false := beq_eq_false_iff_ne.2 q0
      have u1 : (kind == 1) = false := beq_eq_false_iff_ne.2 q1
      have u2 : (kind == 2) = false := beq_eq_false_iff_ne.2 q2
      by_cases q3 : kind = 3
      · subst q3
        clear q0 q1 q2
        have HC := Lib.hid (pd_told task part data HLF.out.pd (by omega) htask (by omega))
        have hsh := otold_shape o task part data
        generalize otold o task part data = r at *
        obtain ⟨code, o2⟩ := r
        simp only at HC hsh
        have HSH := Lib.hid hsh
        clear hsh
        go_wp2_with fail
        refine HC.out.mono ?_
        rintro e w4 ⟨rfl, hpd4, k4⟩
        have HKZ := Lib.hid k4
        have HPD4 := Lib.hid hpd4
        have HT2 : Hid (otasks o2 = otasks o) := by show _ = _; rw [← osh_len, HSH.out, osh_len]
        clear k4 hpd4 HC y0 y1 y2 y3 y4 y5 y6 y7
        go_wp2_with fail
        go_meet
        have hlf := HLF.out.call HKZ.out HPD4.out (by rw [HSH.out]) (by rw [HSH.out]; exact HLF.out.fw)
        exact ⟨o2, Ao, ko, f, lw, by rw [HSH.out], by rw [HSH.out]; exact hlf.up (Nat.le_succ _), by rw [HT2.out]; omega, HKA.out.trans (HKZ.out.mono TP.tu)⟩
      have u3 : (kind == 3) = false := beq_eq_false_iff_ne.2 q3
      clear q0 q1 q2 q3
      have HC := Lib.hid (pd_tick now HLF.out.pd (by omega) hnow)
      have hsh := otick_shape o now
      generalize otick o now = r at *
      obtain ⟨late, o2⟩ := r
      simp only at HC hsh
      have HSH := Lib.hid hsh
      clear hsh
      go_wp2_with fail
      refine HC.out.mono ?_
      rintro e w4 ⟨v4, rfl, hv4, hpd4, k4⟩
      have HKZ := Lib.hid k4
      have HPD4 := Lib.hid hpd4
      have HT2 : Hid (otasks o2 = otasks o) := by show _ = _; rw [← osh_len, HSH.out, osh_len]
      clear k4 hpd4 HC y0 y1 y2 y3 y4 y5 y6 y7
      go_wp2_with fail
      go_meet
      have hlf := HLF.out.call HKZ.out HPD4.out (by rw [HSH.out]) (by rw [HSH.out]; exact HLF.out.fw)
      exact ⟨o2, Ao, ko, f, lw, by rw [HSH.out], by rw [HSH.out]; exact hlf.up (Nat.le_succ _), by rw [HT2.out]; omega, HKA.out.trans (HKZ.out.mono TP.tu)⟩
    case rest =>
      obtain ⟨o2, A3, k3, f2, lw2, rfl, HL2, ht2, HK2⟩ := hcut
      clear y0 y1 y2 y3 y4 y5 y6 y7
      go_wp2_with fail
      go_loopw [28] (fun iv wr => ∃ j, 1 ≤ j ∧ j ≤ otasks o2 + 1 ∧ iv = .int .u64 (j : Nat) ∧ Hid (Keep No wc wr)) (fun iv _ => otasks o2 + 1 - (intOf iv).toNat)
      case atStart => exact ⟨1, Nat.le_refl _, by omega, rfl, Keep.refl _ _⟩
      case round =>
        obtain ⟨j, hj1, hj2, rfl, hkj⟩ := hrel
        have HLJ := Lib.hid (HL2.out.no hkj.out)
        have HTJ := Lib.hid (pd_tasks HLJ.out.pd)
        by_cases hle : j ≤ otasks o2
        case neg =>
          have e1 : decide ((j : Int) ≤ (otasks o2 : Int)) = false := by simp; omega
          have e2 : decide (j ≤ otasks o2) = false := by simp; omega
          go_wp2_with fail
          refine HTJ.out.mono ?_
          rintro e w5 ⟨rfl, rfl⟩
          go_wp2_with fail
          exact ⟨⟨i + 1, o2, A3, k3, f2, lw2, by omega, by simp, rfl, HLJ, by omega, HK2.out.then hkj.out⟩, by simp [intOf]; omega⟩
        have e1 : decide ((j : Int) ≤ (otasks o2 : Int)) = true := by simp; omega
        have e2 : decide (j ≤ otasks o2) = true := by simp; omega
        obtain ⟨D, hD, hDI⟩ : ∃ D, o2 = some D ∧ DI D := by
          rcases HLJ.out.pd with ⟨-, rfl⟩ | ⟨g, D, -, rfl, -, hi⟩
          · exact absurd hle (by simp [otasks]; omega)
          · exact ⟨D, rfl, hi⟩
        have hlen : otasks o2 = D.ts.length := by rw [hD]; rfl
        have hsts : ∀ x, 1 ≤ x → x ≤ otasks o2 → (ostate o2 x).1 = (D.ts.getD (x - 1) default).state := fun x h1 h2 => by
          rw [hD]
          exact dstate_fst D x h1 (by omega)
        have HSTS := Lib.hid hsts
        have HSJ := Lib.hid (pd_state j HLJ.out.pd (by omega))
        have hjs := hsts j hj1 hle
        have hw := HLJ.out.fw j
        have hdone := hDI.done (j - 1)
        have hrange := (hDI.wok (j - 1)).2
        have hall : (D.ts.getD (j - 1) default).state = 2 → ∀ x ∈ lw2 j, 1 ≤ x ∧ x ≤ otasks o2 ∧ (ostate o2 x).1 = 2 := fun h2 x hx => by
          rcases hw with hw | ⟨-, -, hw⟩
          · rw [hw] at hx; cases hx
          · rw [hw, hD] at hx
            simp only [osh] at hx
            rw [shape_getD] at hx
            have hr := hrange x hx
            refine ⟨hr.1, by omega, ?_⟩
            rw [hsts x hr.1 (by omega)]
            exact hdone h2 x hx
        have HALL := Lib.hid hall
        have hval := HLJ.out.val j
        obtain ⟨A9, k9, hfv, -⟩ := id hval.1
        have HV := Lib.hid hval.1.n64
        have HFV := Lib.hid hfv
        rw [hfv] at HV
        have hvl : (lw2 j).length ≤ 60 := by
          rcases hw with hw | ⟨-, h2, hw⟩
          · rw [hw]; exact Nat.zero_le _
          · rw [hw, hD]
            simp only [osh]
            rw [shape_getD]
            have := (hDI.wok (j - 1)).1
            have h3 := hlen
            simp only
            omega
        clear hall hw hdone hrange hval hfv hsts hD hlen
        rw [hjs] at HSJ
        generalize (D.ts.getD (j - 1) default).state = sj at *
        clear hjs
        have hj64 : j < 18446744073709551616 := by omega
        have hw1 := IntWalk.u64_in ((j : Int) + 1) (by omega)
        go_wp2_with fail
        refine HTJ.out.mono ?_
        rintro e w5 ⟨rfl, rfl⟩
        go_wp2_with fail
        refine HSJ.out.mono ?_
        rintro e w5 ⟨rfl, k5⟩
        have HK5 := Lib.hid (hkj.out.trans k5)
        have HV5 := Lib.hid (Sl.keep HV.out k5 (fun _ _ h => h))
        have HM5 := Lib.hid ((HLJ.out.no k5).map)
        clear k5
        by_cases hs2 : sj = 2
        case neg =>
          have e3 : ((sj : Int) != 2) = true := by rw [bne_iff_ne]; omega
          have e4 : ((sj : Int) == 2) = false := beq_eq_false_iff_ne.2 (by omega)
          go_wp2_with fail
          exact ⟨⟨j + 1, by omega, by omega, by simp, HK5⟩, by simp [intOf]; omega⟩
        subst hs2
        have HALL2 := Lib.hid (HALL.out rfl)
        go_wp2_with (at_lookup; refine wpList_lookV _ rfl _ _ rfl M _ f2 rfl HM5.out j hj64 rfl (.slice A9 (lw2 j).length k9) HFV.out ?_; show wpList _ _ _ _ (Act.put _ _ (Value.slice A9 (lw2 j).length k9)) _)
        generalize lw2 j = L9 at *
        go_loopw [151] (fun iv wr => ∃ m, m ≤ L9.length ∧ iv = .int .i64 (m : Nat) ∧ Hid (Keep No w5 wr)) (fun iv _ => L9.length - (intOf iv).toNat)
        case atStart => exact ⟨0, Nat.zero_le _, rfl, Keep.refl _ _⟩
        case round =>
          obtain ⟨m, hm, rfl, hkm⟩ := hrel
          by_cases hml : m < L9.length
          · obtain ⟨b9, o9, c9, hv9, hc9, hcell⟩ := (show N64 wr _ _ from Sl.keep HV5.out hkm.out (fun _ _ h => h)).at_ m hml
            injection hv9 with hA9 _ hcc9
            subst hA9 hcc9
            obtain ⟨r1, r2, r3⟩ := HALL2.out L9[m] (List.getElem_mem hml)
            generalize L9[m] = x9 at *
            have HS9 := Lib.hid (pd_state x9 ((HL2.out.no HK5.out).no hkm.out).pd (by omega))
            rw [r3] at HS9
            clear r3
            go_wp2_with fail
            refine HS9.out.mono ?_
            rintro e w6 ⟨rfl, k6⟩
            have HK6 := Lib.hid (hkm.out.trans k6)
            clear k6
            go_wp2_with fail
            exact ⟨⟨m + 1, by omega, by simp, HK6⟩, by simp [intOf]; omega⟩
          · go_wp2_with fail
            exact ⟨⟨j + 1, by omega, by omega, by simp, HK5.out.trans hkm.out⟩, by simp [intOf]; omega⟩
end Go.Proofs.Ytimdaioojnohmaa
