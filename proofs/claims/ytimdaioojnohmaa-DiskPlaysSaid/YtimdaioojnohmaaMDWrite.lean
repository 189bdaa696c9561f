/-
  (*Disk).Write and (*Disk).Read walked.
  A disk that may be none: what each call does with it.
-/
import Derived.Test.YtimdaioojnohmaaMDBegin
import Derived.Test.YtimdaioojnohmaaMDInv
import Derived.Test.YtimdaioojnohmaaMDFun
namespace Go.Proofs.Ytimdaioojnohmaa
open Go.RowKit Go.Maps
variable {X : Nat → Prop}

theorem dwrite_2 (D : DD) (a : Nat) (data : ByteArray) (now : Nat) (h : data.size / 8 = 0 ∨ data.size % 8 ≠ 0) : dwrite D a data now = (0, [], 2, D) := by
  unfold dwrite
  rw [if_pos h]
theorem dwrite_30 (D : DD) (a : Nat) (data : ByteArray) (now : Nat) (h : ¬ (data.size / 8 = 0 ∨ data.size % 8 ≠ 0)) (h2 : D.blocks < data.size / 8) : dwrite D a data now = (0, [], 30, D) := by
  unfold dwrite
  rw [if_neg h, if_pos h2]
theorem dwrite_ok (D : DD) (a : Nat) (data : ByteArray) (now : Nat) (h : ¬ (data.size / 8 = 0 ∨ data.size % 8 ≠ 0)) (h2 : ¬ D.blocks < data.size / 8) : dwrite D a data now = dbegin D a (data.size / 8) true data now := by
  unfold dwrite
  rw [if_neg h, if_neg h2]
theorem DAt.hi_le {B hi : Nat} {w : World} {g : Nat} {D : DD} (h : DAt X B hi w g D) : hi ≤ w.heap.size := by
  obtain ⟨_, _, _, _, _, _, _, _, _, _, _, _, _, _, _, _, _, _, hs⟩ := h
  exact hs
theorem DAt.top {B hi : Nat} {w w' : World} {g : Nat} {D : DD} (h : DAt X B hi w g D) (hk : Keep No w w') : DAt X B w'.heap.size w' g D := (h.no hk).up (h.no hk).hi_le (Nat.le_refl _)
set_option maxRecDepth 100000 in
set_option maxHeartbeats 2000000 in
theorem dwrite_any (B hi g a now : Nat) (data : ByteArray) (D : DD) (w : World) (h : DAt X B hi w g D) (hfit : dfit D.per D.blocks D.chunks.length = true) (hb32 : D.blocks < 4294967296) (few : D.ts.length ≤ 1048575)
    (ha : a < 4294967296) (hs : data.size ≤ 1073741824) :
    Calls Try.prog 31 #[.pointer (some ⟨g, 0, none⟩), .int .u32 (a : Nat), .string data, .int .u64 (now : Nat)] w fun e w' => ∃ v, e = .returned (.tuple #[.int .u64 ((dwrite D a data now).1 : Nat), v, .int .i64 ((dwrite D a data now).2.2.1 : Nat)]) ∧
      A125 w w' v (dwrite D a data now).2.1 ∧ DAt X B w'.heap.size w' g (dwrite D a data now).2.2.2 ∧ KeepZ (TP X B) w w' := by
  have hf := (dfit_iff _ _ _).1 hfit
  have HNO := Lib.hid (h.notnone (by omega))
  have H := Lib.hid h
  obtain ⟨cs, hcs, -, hc2, -⟩ := h.disk
  have c2 := (blk_cell hcs 2).trans hc2
  obtain ⟨n, hn⟩ : ∃ n, n = data.size / 8 := ⟨_, rfl⟩
  obtain ⟨r, hr⟩ : ∃ r, r = data.size % 8 := ⟨_, rfl⟩
  have q1 : (data.size : Int) / 8 = (n : Nat) := by omega
  have q2 : (data.size : Int) % 8 = (r : Nat) := by omega
  have hsz : data.size = 8 * n + r := by omega
  have hn2 : n ≤ 134217728 := by omega
  have h2 := dwrite_2 D a data now
  have h30 := dwrite_30 D a data now
  have hok := dwrite_ok D a data now
  rw [← hn, ← hr] at h2 h30
  rw [← hn, ← hr] at hok
  clear hcs hc2 h hn hr
  by_cases h0 : n = 0
  · rw [h2 (.inl h0)]
    subst h0
    clear h2 h30 hok hsz
    go_enter Try.func31, Try.ntmps31
    go_wp2_with fail
    refine HNO.out.mono ?_
    rintro e w1 ⟨rfl, rfl⟩
    go_wp2_with fail
    refine bodyPost_ret (results_tmp3 rfl _ _ _) rfl ?_
    exact ⟨_, rfl, A125.nil _ _, H.out.top (Keep.refl _ _), KeepZ.refl _ _⟩
  · have e0 : ((n : Int) == 0) = false := beq_eq_false_iff_ne.2 (by omega)
    by_cases hr0 : r = 0
    · subst hr0
      have w1' := IntWalk.u64_in (n : Int) (by omega)
      have w2' := IntWalk.u64_in (D.blocks : Int) (by omega)
      by_cases hb : D.blocks < n
      · rw [h30 (by omega) hb]
        have e1 : decide ((D.blocks : Int) < (n : Int)) = true := by simp; omega
        have e2 : decide (D.blocks < n) = true := by simp; omega
        clear h2 h30 hok h0 hb hf hfit
        generalize D.blocks = db at *
        go_enter Try.func31, Try.ntmps31
        go_wp2_with fail
        refine HNO.out.mono ?_
        rintro e w1 ⟨rfl, rfl⟩
        go_wp2_with fail
        refine bodyPost_ret (results_tmp3 rfl _ _ _) rfl ?_
        exact ⟨_, rfl, A125.nil _ _, H.out.top (Keep.refl _ _), KeepZ.refl _ _⟩
      · rw [hok (by omega) hb]
        have e1 : decide ((D.blocks : Int) < (n : Int)) = false := by simp; omega
        have e2 : decide (D.blocks < n) = false := by simp; omega
        have w3' := IntWalk.u32_in (n : Int) (by omega)
        have HB := Lib.hid (dbegin_any B hi g a n now true data D w H.out hfit hb32 few ha (by omega) (fun _ => by omega))
        clear h2 h30 hok h0 hb hf hfit
        generalize D.blocks = db at *
        generalize dbegin D a n true data now = res at *
        go_enter Try.func31, Try.ntmps31
        go_wp2_with fail
        refine HNO.out.mono ?_
        rintro e w1 ⟨rfl, rfl⟩
        go_wp2_with fail
        refine HB.out.mono ?_
        rintro e w2 ⟨v, rfl, ha, hd, hk⟩
        go_wp2_with fail
        refine bodyPost_ret (results_tmp3 rfl _ _ _) rfl ?_
        exact ⟨v, rfl, ha, hd, hk⟩
    · rw [h2 (.inr hr0)]
      have e1 : ((r : Int) != 0) = true := by rw [bne_iff_ne]; omega
      have e2 : ((r : Int) == 0) = false := beq_eq_false_iff_ne.2 (by omega)
      clear h2 h30 hok hsz h0 hr0
      go_enter Try.func31, Try.ntmps31
      go_wp2_with fail
      refine HNO.out.mono ?_
      rintro e w1 ⟨rfl, rfl⟩
      go_wp2_with fail
      refine bodyPost_ret (results_tmp3 rfl _ _ _) rfl ?_
      exact ⟨_, rfl, A125.nil _ _, H.out.top (Keep.refl _ _), KeepZ.refl _ _⟩
set_option maxRecDepth 100000 in
theorem dread_any (B hi g a c now : Nat) (D : DD) (w : World) (h : DAt X B hi w g D) (hfit : dfit D.per D.blocks D.chunks.length = true) (hb32 : D.blocks < 4294967296) (few : D.ts.length ≤ 1048575)
    (ha : a < 4294967296) (hc : c < 4294967296) :
    Calls Try.prog 32 #[.pointer (some ⟨g, 0, none⟩), .int .u32 (a : Nat), .int .u32 (c : Nat), .int .u64 (now : Nat)] w fun e w' => ∃ v, e = .returned (.tuple #[.int .u64 ((dread D a c now).1 : Nat), v, .int .i64 ((dread D a c now).2.2.1 : Nat)]) ∧
      A125 w w' v (dread D a c now).2.1 ∧ DAt X B w'.heap.size w' g (dread D a c now).2.2.2 ∧ KeepZ (TP X B) w w' := by
  have hf := (dfit_iff _ _ _).1 hfit
  have HNO := Lib.hid (h.notnone (by omega))
  have HB := Lib.hid (dbegin_any B hi g a c now false ByteArray.empty D w h hfit hb32 few ha hc (fun e => by cases e))
  unfold dread
  clear h hf hfit ha hc
  generalize dbegin D a c false ByteArray.empty now = res at *
  go_enter Try.func32, Try.ntmps32
  go_wp2_with fail
  refine HNO.out.mono ?_
  rintro e w1 ⟨rfl, rfl⟩
  go_wp2_with fail
  refine HB.out.mono ?_
  rintro e w2 ⟨v, rfl, ha, hd, hk⟩
  go_wp2_with fail
  refine bodyPost_ret (results_tmp3 rfl _ _ _) rfl ?_
  exact ⟨v, rfl, ha, hd, hk⟩
end Go.Proofs.Ytimdaioojnohmaa

namespace Go.Proofs.Ytimdaioojnohmaa
open Go.RowKit Go.Maps

/-- The program's disk p, which may be none. -/
def PD (X : Nat → Prop) (B : Nat) (w : World) (p : Value) (o : Option DD) : Prop := (p = .pointer none ∧ o = none) ∨ ∃ g D, p = .pointer (some ⟨g, 0, none⟩) ∧ o = some D ∧ DAt X B w.heap.size w g D ∧ DI D
def otasks : Option DD → Nat
  | none => 0
  | some D => D.ts.length
def oopen : Option DD → List DPart
  | none => []
  | some D => dopen D
def onopen : Option DD → Nat
  | none => 0
  | some D => nopen D.ts
def owrite (o : Option DD) (a : Nat) (data : ByteArray) (now : Nat) : Nat × List DPart × Nat × Option DD :=
  match o with
  | none => (0, [], 1, none)
  | some D => ((dwrite D a data now).1, (dwrite D a data now).2.1, (dwrite D a data now).2.2.1, some (dwrite D a data now).2.2.2)
def oread (o : Option DD) (a c now : Nat) : Nat × List DPart × Nat × Option DD :=
  match o with
  | none => (0, [], 1, none)
  | some D => ((dread D a c now).1, (dread D a c now).2.1, (dread D a c now).2.2.1, some (dread D a c now).2.2.2)
def oflush (o : Option DD) (now : Nat) : Nat × Nat × Option DD :=
  match o with
  | none => (0, 1, none)
  | some D => ((dflush D now).1, (dflush D now).2.1, some (dflush D now).2.2)
def otold (o : Option DD) (id : Nat) (k : Int) (s : ByteArray) : Nat × Option DD :=
  match o with
  | none => (1, none)
  | some D => ((dtold D id k s).1, some (dtold D id k s).2)
def otick (o : Option DD) (now : Nat) : List Nat × Option DD :=
  match o with
  | none => ([], none)
  | some D => ((dtick D now).1, some (dtick D now).2)
def ogrow (o : Option DD) (b : Nat) (l : List Nat) : Nat × Option DD :=
  match o with
  | none => (1, none)
  | some D => ((dgrow D b l).1, some (dgrow D b l).2)
def ostate (o : Option DD) (id : Nat) : Nat × ByteArray :=
  match o with
  | none => (0, ByteArray.empty)
  | some D => dstate D id
theorem DI.per {D : DD} (h : DI D) : D.per ≠ 0 ∧ D.per < 4294967296 := by
  have := (dfit_iff _ _ _).1 h.fit
  exact ⟨by omega, by omega⟩
section
variable {X : Nat → Prop} {B : Nat} {w w' : World} {p : Value} {o : Option DD}
theorem PD.no (h : PD X B w p o) (hk : Keep No w w') : PD X B w' p o := by
  rcases h with h | ⟨g, D, h1, h2, h3, h4⟩
  · exact .inl h
  · exact .inr ⟨g, D, h1, h2, h3.top hk, h4⟩
theorem pd_new (per blocks n : Nat) (a : Int) (v : Value) (l : List Nat) (w : World) (hp : per < 4294967296) (hb : blocks < 4294967296) (hn : n < 18446744073709551616) (ha : -9223372036854775808 ≤ a ∧ a ≤ 9223372036854775807)
    (h : Rd w v l.length (l.map u64v)) (hl : l.length ≤ 1048576) (hX : ∀ k, X k → k < w.heap.size) :
    Calls Try.prog 21 #[.int .u32 per, .int .u32 blocks, v, .int .i64 a, .int .u64 n] w fun e w' => ∃ p o, e = .returned p ∧ PD X w.heap.size w' p o ∧ Keep No w w' ∧
      o = (if (a < 1 ∨ 64 < a ∨ n = 0) ∨ dfit per blocks l.length = false then none else some ⟨per, blocks, l, a.toNat, n, [], []⟩) := by
  by_cases hbad : (a < 1 ∨ 64 < a ∨ n = 0) ∨ dfit per blocks l.length = false
  · exact (dnew_bad per blocks n a v l w hp hb hn ha h hl hbad).mono fun e w' ⟨he, hk⟩ => ⟨_, none, he, .inl ⟨rfl, rfl⟩, hk, by rw [if_pos hbad]⟩
  · obtain ⟨most, rfl⟩ := Int.eq_ofNat_of_zero_le (show 0 ≤ a by omega)
    have hf : dfit per blocks l.length = true := by
      cases e : dfit per blocks l.length
      · exact absurd (.inr e) hbad
      · rfl
    exact (dnew_any per blocks n most v l w hp hb hn (by omega) (by omega) (by omega) h hl hf hX).mono fun e w' ⟨g, he, hd, hk⟩ =>
      ⟨_, _, he, .inr ⟨g, _, rfl, rfl, hd, DI.new per blocks most n l hf hb hl⟩, hk, by rw [if_neg hbad, Int.toNat_natCast]⟩
theorem pd_tasks (h : PD X B w p o) : Calls Try.prog 28 #[p] w fun e w' => e = .returned (.int .u64 (otasks o : Nat)) ∧ w = w' := by
  rcases h with ⟨rfl, rfl⟩ | ⟨g, D, rfl, rfl, hd, hi⟩
  · exact dtasks_nil w
  · exact dtasks_at g _ w hd.last
theorem pd_blocks (h : PD X B w p o) : Calls Try.prog 27 #[p] w fun e w' => e = .returned (.int .u32 ((match o with | none => 0 | some D => D.blocks : Nat) : Int)) ∧ w = w' := by
  rcases h with ⟨rfl, rfl⟩ | ⟨g, D, rfl, rfl, hd, hi⟩
  · exact dblocks_nil w
  · obtain ⟨cs, hcs, -, hc2, -⟩ := hd.disk
    exact dblocks_at g _ w ((blk_cell hcs 2).trans hc2)
theorem pd_open (h : PD X B w p o) (few : otasks o ≤ 1048576) : Calls Try.prog 25 #[p] w fun e w' => ∃ v, e = .returned v ∧ A125 w w' v (oopen o) ∧ Keep No w w' := by
  rcases h with ⟨rfl, rfl⟩ | ⟨g, D, rfl, rfl, hd, hi⟩
  · exact (nd_open w _ (.inl rfl)).mono fun e w' ⟨he, hk⟩ => ⟨_, he, A125.nil _ _, hk⟩
  · exact dopen_any B _ g D w hd hi.per.1 few hi.sm
theorem pd_write (a now : Nat) (data : ByteArray) (h : PD X B w p o) (few : otasks o ≤ 1048575) (ha : a < 4294967296) (hs : data.size ≤ 1048576) (hnow : now < 18446744073709551616) :
    Calls Try.prog 31 #[p, .int .u32 (a : Nat), .string data, .int .u64 (now : Nat)] w fun e w' => ∃ v, e = .returned (.tuple #[.int .u64 ((owrite o a data now).1 : Nat), v, .int .i64 ((owrite o a data now).2.2.1 : Nat)]) ∧
      A125 w w' v (owrite o a data now).2.1 ∧ PD X B w' p (owrite o a data now).2.2.2 ∧ KeepZ (TP X B) w w' := by
  rcases h with ⟨rfl, rfl⟩ | ⟨g, D, rfl, rfl, hd, hi⟩
  · exact (nd_write w _ (a : Nat) (now : Nat) data (.inl rfl) (by omega)).mono fun e w' ⟨he, hk⟩ => ⟨_, he, A125.nil _ _, .inl ⟨rfl, rfl⟩, KeepZ.of hk⟩
  · have few' : D.ts.length ≤ 1048575 := few
    exact (dwrite_any B _ g a now data D w hd hi.fit hi.b32 few' ha (by omega)).mono fun e w' ⟨v, he, hv, hd', hk⟩ => ⟨v, he, hv, .inr ⟨g, _, rfl, rfl, hd', hi.write a data now hnow (by omega)⟩, hk⟩
theorem pd_read (a c now : Nat) (h : PD X B w p o) (few : otasks o ≤ 1048575) (ha : a < 4294967296) (hc : c < 4294967296) (hnow : now < 18446744073709551616) :
    Calls Try.prog 32 #[p, .int .u32 (a : Nat), .int .u32 (c : Nat), .int .u64 (now : Nat)] w fun e w' => ∃ v, e = .returned (.tuple #[.int .u64 ((oread o a c now).1 : Nat), v, .int .i64 ((oread o a c now).2.2.1 : Nat)]) ∧
      A125 w w' v (oread o a c now).2.1 ∧ PD X B w' p (oread o a c now).2.2.2 ∧ KeepZ (TP X B) w w' := by
  rcases h with ⟨rfl, rfl⟩ | ⟨g, D, rfl, rfl, hd, hi⟩
  · exact (nd_read w _ (a : Nat) (c : Nat) (now : Nat) (.inl rfl)).mono fun e w' ⟨he, hk⟩ => ⟨_, he, A125.nil _ _, .inl ⟨rfl, rfl⟩, KeepZ.of hk⟩
  · have few' : D.ts.length ≤ 1048575 := few
    exact (dread_any B _ g a c now D w hd hi.fit hi.b32 few' ha hc).mono fun e w' ⟨v, he, hv, hd', hk⟩ => ⟨v, he, hv, .inr ⟨g, _, rfl, rfl, hd', hi.begin_ a c false ByteArray.empty now hnow (by omega)⟩, hk⟩
theorem pd_flush (now : Nat) (h : PD X B w p o) (few : otasks o ≤ 1048575) (hnow : now < 18446744073709551616) (hX : ∀ k, X k → k < w.heap.size) :
    Calls Try.prog 33 #[p, .int .u64 (now : Nat)] w fun e w' => e = .returned (.tuple #[.int .u64 ((oflush o now).1 : Nat), .int .i64 ((oflush o now).2.1 : Nat)]) ∧ PD X B w' p (oflush o now).2.2 ∧ KeepZ (TP X B) w w' := by
  rcases h with ⟨rfl, rfl⟩ | ⟨g, D, rfl, rfl, hd, hi⟩
  · exact (nd_flush w _ (now : Nat) (.inl rfl)).mono fun e w' ⟨he, hk⟩ => ⟨he, .inl ⟨rfl, rfl⟩, KeepZ.of hk⟩
  · have few' : D.ts.length ≤ 1048575 := few
    exact (dflush_any B _ g now D w hd few' hi.wok hi.per.1 hX).mono fun e w' ⟨he, hd', hk⟩ => ⟨he, .inr ⟨g, _, rfl, rfl, hd', hi.flush now hnow (by omega)⟩, hk⟩
theorem pd_told (id : Nat) (k : Int) (s : ByteArray) (h : PD X B w p o) (few : otasks o ≤ 1048575) (hid : id < 18446744073709551616) (hs : s.size ≤ 1048576) :
    Calls Try.prog 34 #[p, .int .u64 (id : Nat), .int .i64 k, .string s] w fun e w' => e = .returned (.int .i64 ((otold o id k s).1 : Nat)) ∧ PD X B w' p (otold o id k s).2 ∧ KeepZ (TP X B) w w' := by
  rcases h with ⟨rfl, rfl⟩ | ⟨g, D, rfl, rfl, hd, hi⟩
  · exact (nd_told w _ (id : Nat) k s (.inl rfl)).mono fun e w' ⟨he, hk⟩ => ⟨he, .inl ⟨rfl, rfl⟩, KeepZ.of hk⟩
  · have few' : D.ts.length ≤ 1048575 := few
    exact (dtold_any B _ g id k s D w hd hi.per.1 (by omega) hi.sm hi.wok hid).mono fun e w' ⟨he, hd', hk⟩ => ⟨he, .inr ⟨g, _, rfl, rfl, hd'.up hk.size (Nat.le_refl _), (hi.toldAll id k s hs).1⟩, hk⟩
theorem pd_tick (now : Nat) (h : PD X B w p o) (few : otasks o ≤ 1048575) (hnow : now < 18446744073709551616) :
    Calls Try.prog 36 #[p, .int .u64 (now : Nat)] w fun e w' => ∃ r, e = .returned r ∧ N64 w' r (otick o now).1 ∧ PD X B w' p (otick o now).2 ∧ KeepZ (TP X B) w w' := by
  rcases h with ⟨rfl, rfl⟩ | ⟨g, D, rfl, rfl, hd, hi⟩
  · exact (nd_tick w _ (now : Nat) (.inl rfl)).mono fun e w' ⟨he, hk⟩ => ⟨_, he, Sl.nil _, .inl ⟨rfl, rfl⟩, KeepZ.of hk⟩
  · have few' : D.ts.length ≤ 1048575 := few
    exact (dtick_any B _ g now D w hd few' hi.per.1 hi.qb (fun x hx => ⟨(hi.ids x hx).1, (hi.ids x hx).2.1⟩) hnow).mono fun e w' ⟨r, he, hr, hd', hk⟩ => ⟨r, he, hr, .inr ⟨g, _, rfl, rfl, hd'.up hk.size (Nat.le_refl _), hi.tick now⟩, hk⟩
theorem pd_grow (b : Nat) (v : Value) (l : List Nat) (h : PD X B w p o) (hb : b < 4294967296) (hl : Rd w v l.length (l.map u64v)) (hln : l.length ≤ 1048576) (hX : ∀ k, X k → k < w.heap.size) :
    Calls Try.prog 35 #[p, .int .u32 (b : Nat), v] w fun e w' => e = .returned (.int .i64 ((ogrow o b l).1 : Nat)) ∧ PD X B w' p (ogrow o b l).2 ∧ KeepZ (TP X B) w w' := by
  rcases h with ⟨rfl, rfl⟩ | ⟨g, D, rfl, rfl, hd, hi⟩
  · exact (nd_grow w _ v (b : Nat) (.inl rfl)).mono fun e w' ⟨he, hk⟩ => ⟨he, .inl ⟨rfl, rfl⟩, KeepZ.of hk⟩
  · exact (dgrow_any B _ g b v l D w hd hi.per.2 hi.fit hb hi.b32 hl hln hi.clen hX).mono fun e w' ⟨he, hd', hk⟩ => ⟨he, .inr ⟨g, _, rfl, rfl, hd'.up hk.size (Nat.le_refl _), hi.grow b l hb hln⟩, hk⟩
theorem pd_state (id : Nat) (h : PD X B w p o) (hid : id < 18446744073709551616) : Calls Try.prog 29 #[p, .int .u64 (id : Nat)] w fun e w' => e = .returned (.tuple #[.int .i64 ((ostate o id).1 : Nat), .string (ostate o id).2]) ∧ Keep No w w' := by
  rcases h with ⟨rfl, rfl⟩ | ⟨g, D, rfl, rfl, hd, hi⟩
  · exact nd_state w _ (id : Nat) (.inl rfl)
  · exact dstate_any B _ g id D w hd hi.per.1 hid hi.sm
end
/-- What is refused changes nothing; else a task more, and what is asked is open. -/
def NFair (n m asks code n' m' : Nat) : Prop := (code ≠ 0 ∧ asks = 0 ∧ n' = n ∧ m' = m) ∨ (code = 0 ∧ n' = n + 1 ∧ m' = m + asks)
theorem Fair.n {D D' : DD} {asks code : Nat} (h : Fair D asks code D') : NFair D.ts.length (nopen D.ts) asks code D'.ts.length (nopen D'.ts) := by
  rcases h with ⟨h1, h2, rfl⟩ | h
  · exact .inl ⟨h1, h2, rfl, rfl⟩
  · exact .inr h
theorem owrite_fair (o : Option DD) (a : Nat) (data : ByteArray) (now : Nat) : NFair (otasks o) (onopen o) (owrite o a data now).2.1.length (owrite o a data now).2.2.1 (otasks (owrite o a data now).2.2.2) (onopen (owrite o a data now).2.2.2) := by
  cases o with
  | none => exact .inl ⟨Nat.succ_ne_zero 0, rfl, rfl, rfl⟩
  | some D => exact (dwrite_fair D a data now).n
theorem oread_fair (o : Option DD) (a c now : Nat) : NFair (otasks o) (onopen o) (oread o a c now).2.1.length (oread o a c now).2.2.1 (otasks (oread o a c now).2.2.2) (onopen (oread o a c now).2.2.2) := by
  cases o with
  | none => exact .inl ⟨Nat.succ_ne_zero 0, rfl, rfl, rfl⟩
  | some D => exact (dread_fair D a c now).n
theorem oflush_fair (o : Option DD) (now : Nat) : NFair (otasks o) (onopen o) 0 (oflush o now).2.1 (otasks (oflush o now).2.2) (onopen (oflush o now).2.2) := by
  cases o with
  | none => exact .inl ⟨Nat.succ_ne_zero 0, rfl, rfl, rfl⟩
  | some D => exact (dflush_fair D now).n
theorem otold_fair (o : Option DD) (id : Nat) (k : Int) (s : ByteArray) : otasks (otold o id k s).2 = otasks o ∧ (((otold o id k s).1 ≠ 0 ∧ onopen (otold o id k s).2 = onopen o) ∨ ((otold o id k s).1 = 0 ∧ onopen (otold o id k s).2 + 1 = onopen o)) := by
  cases o with
  | none => exact ⟨rfl, .inl ⟨Nat.succ_ne_zero 0, rfl⟩⟩
  | some D =>
    refine ⟨?_, ?_⟩
    · show (dtold D id k s).2.ts.length = D.ts.length
      unfold dtold
      split
      · rfl
      · simp only
        split
        · rfl
        · split
          · rfl
          · split
            · rfl
            · split
              · simp
              · rw [dflushes_len, dend_len]; simp
    · rcases dtold_fair D id k s with ⟨h1, h2⟩ | h
      · exact .inl ⟨h1, by show nopen (dtold D id k s).2.ts = _; rw [h2]; rfl⟩
      · exact .inr h
theorem oopen_len (o : Option DD) : (oopen o).length = onopen o := by
  cases o with
  | none => rfl
  | some D => exact dopen_len D
end Go.Proofs.Ytimdaioojnohmaa
