/-
  The document's disk: New 22.
  The document's disk: Grow 67.
-/
import Derived.Test.YtimdaioojnohmaaMRMem
import Derived.Test.YtimdaioojnohmaaMDFun
import Derived.Test.YtimdaioojnohmaaMDEqual
import Derived.Deep.QuietTactic
import Derived.BigQuiet
namespace Go.Proofs.Ytimdaioojnohmaa
open Go.RowKit Go.Maps
/-- A slice of numbers that is read, and is not empty, is one for an append. -/
theorem Rd.sl64 {w : World} {v : Value} {l : List Nat} (h : Rd w v l.length (l.map u64v)) (hl : l ≠ []) : Sl w v l.length (l.map u64v) := by
  obtain ⟨A, c, rfl, hc, hx⟩ := h
  cases l with
  | nil => exact absurd rfl hl
  | cons x l =>
    obtain ⟨b, o, rfl, h0⟩ := hx 0 (u64v x) rfl
    refine .inr ⟨b, o, c, rfl, hc, fun j u hj => ?_⟩
    obtain ⟨b2, o2, e, h2⟩ := hx j u hj
    injection e with e
    injection e with e1 e2
    subst e1 e2
    exact h2
/-- append of nothing to nothing. -/
theorem wpList_app0 {w : World} {ops : Array Oper} {rest : List Oper} {o : Oper} {a : Act} {Q : Exit → Act → World → Prop} (hgd : o.guard = none) (ds sr : Operand)
    (ho : o.op = .call { callee := .builtin .append, args := #[ds, sr], argTypes := #[41, 41] }) (A : Option Addr) (c : Nat) (hv : a.eval ds = .slice none 0 0) (hx : a.eval sr = .slice A 0 c)
    (h : wpList Try.prog ops Q rest (a.put o.dst (.slice none 0 0)) w) : wpList Try.prog ops Q (o :: rest) a w := by
  refine wpList_plain hgd fun K hK => ?_
  obtain ⟨i, hi, -, -, -⟩ := info_parts Try.info29
  have hl : ∀ (x : Addr), (loadCells x 0).run Try.prog w = .ok #[] w := fun x => by simpa using run_loadCells_list (P := Try.prog) w x [] (by simp)
  have hr : (Builtin.append_ #[41, 41] o.type #[.slice none 0 0, .slice A 0 c]).run Try.prog w = .ok (.slice none 0 0) w := by
    cases A <;> simp [Builtin.append_, run_underlying Try.underlying41, sizeOf, typeInfo, hi, Builtin.lenOf, Builtin.firstCells, hl]
  unfold Oper.wp execOp
  simp only [ho, resolve, invoke, builtin, Sem.run_bind, Sem.run_pure, Result.andThen_ok, List.map_toArray, List.map_cons, List.map_nil, hv, hx, hr]
  exact hK _ _ h
/-- append of numbers that are read to nothing. -/
theorem wpList_app1 {w : World} {ops : Array Oper} {rest : List Oper} {o : Oper} {a : Act} {Q : Exit → Act → World → Prop} (hgd : o.guard = none) (ds sr : Operand)
    (ho : o.op = .call { callee := .builtin .append, args := #[ds, sr], argTypes := #[41, 41] }) (v : Value) (l : List Nat) (hR : Rd w v l.length (l.map u64v)) (hl : l.length ≤ 1048576) (hv : a.eval ds = .slice none 0 0) (hx : a.eval sr = v)
    (h : ∀ A' c' w', New64 w w' (.slice A' l.length c') l → Keep No w w' → wpList Try.prog ops Q rest (a.put o.dst (.slice A' l.length c')) w') : wpList Try.prog ops Q (o :: rest) a w := by
  by_cases hne : l = []
  · subst hne
    obtain ⟨A, c, rfl, hc, -⟩ := hR
    exact wpList_app0 hgd ds sr ho A c hv hx (h none 0 w ⟨none, 0, rfl, World.ownsRow_nil _ _ _ _, fun b hb => by simp [Value.ownBlock] at hb⟩ (Keep.refl _ _))
  · refine wpList_app hgd ds sr 41 ho 29 _ 1 8 Try.underlying41 Try.info29 rfl (by decide) _ 0 [] (World.ownsRow_nil _ _ _ _) hv v l.length (l.map u64v) (hR.sl64 hne) hx (by simp) (u64v_one l) (by omega) (by simp only [maxLen]; omega) ?_
    intro A' c' w' ho' hk' hn'
    have h2 := h A' c' w'
    simp only [Nat.zero_add, List.nil_append] at ho' hn' ⊢
    refine h2 ⟨A', c', rfl, ho', fun b hb => ?_⟩ (hk'.mono (fun i _ e => by simp [Own, Value.ownBlock] at e))
    rcases hn' b hb with e | e
    · simp [Value.ownBlock] at e
    · exact e.1
theorem rnew_bad2 (most : Int) (pat : Nat) (w : World) (h : most < 1 ∨ 64 < most ∨ pat = 0) : Calls Try.prog 47 #[.int .i64 most, .int .u64 pat] w fun e w' => ∃ p, e = .returned (.tuple #[.pointer p, .bool false]) ∧ Keep No w w' := by
  by_cases a1 : most < 1
  · have hd : decide ((1 : Int) ≤ most) = false := by simp; omega
    go_enter Try.func47, Try.ntmps47
    go_wp2_with fail
    go_ret2
    first | exact ⟨⟨_, rfl⟩, (Keep.refl _ _).alloc _⟩ | exact ⟨_, rfl, (Keep.refl _ _).alloc _⟩
  have hd : decide ((1 : Int) ≤ most) = true := by simp; omega
  by_cases a2 : 64 < most
  · have hd2 : decide (most ≤ (64 : Int)) = false := by simp; omega
    go_enter Try.func47, Try.ntmps47
    go_wp2_with fail
    go_ret2
    first | exact ⟨⟨_, rfl⟩, (Keep.refl _ _).alloc _⟩ | exact ⟨_, rfl, (Keep.refl _ _).alloc _⟩
  · have hd2 : decide (most ≤ (64 : Int)) = true := by simp; omega
    obtain rfl : pat = 0 := by omega
    go_enter Try.func47, Try.ntmps47
    go_wp2_with fail
    go_ret2
    first | exact ⟨⟨_, rfl⟩, (Keep.refl _ _).alloc _⟩ | exact ⟨_, rfl, (Keep.refl _ _).alloc _⟩
section
set_option maxRecDepth 100000 in
/-- Where there is no such disk. -/
theorem rdnew_bad (per blocks n : Nat) (a : Int) (v : Value) (l : List Nat) (w : World) (hp : per < 4294967296) (hb : blocks < 4294967296) (hn : n < 18446744073709551616)
    (h : Rd w v l.length (l.map u64v)) (hl : l.length ≤ 1048576) (hbad : (a < 1 ∨ 64 < a ∨ n = 0) ∨ dfit per blocks l.length = false) :
    Calls Try.prog 22 #[.int .u32 per, .int .u32 blocks, v, .int .i64 a, .int .u64 n] w fun e w' => ∃ p, e = .returned (.tuple #[p, .bool false]) ∧ Keep No w w' := by
  obtain ⟨A, c, rfl, hlc, -⟩ := id h
  have H := Lib.hid h
  have HFT := Lib.hid (fun W => rfit_any per blocks l.length W hp hb (by omega))
  clear h hp hb
  by_cases h1 : a < 1 ∨ 64 < a ∨ n = 0
  · have HN := Lib.hid (rnew_bad2 a n w h1)
    clear h1 hbad hn
    go_enter Try.func22, Try.ntmps22
    go_wp2_with fail
    refine HN.out.mono ?_
    rintro e w1 ⟨p, rfl, k1⟩
    have K1 := Lib.hid k1
    clear k1
    have hR := (H.out.keep K1.out).keep ((Keep.refl No w1).alloc (.cells #[.int .u32 (per : Nat), .int .u32 (blocks : Nat), .slice none 0 0, .pointer p, .slice none 0 0] 61))
    have hb2 := blk_at w1 (.cells #[.int .u32 (per : Nat), .int .u32 (blocks : Nat), .slice none 0 0, .pointer p, .slice none 0 0] 61) rfl
    have HR := Lib.hid hR
    clear hR
    go_wp2_with (first | (at_builtin; refine wpList_app1 rfl _ _ rfl _ l HR.out hl rfl rfl ?_; intro A' c' w' ho' hk'; have hb3 := hk'.blk hb2 (fun h => h); have fr := blk_free hb3 2; have cc := (blk_cell hb3 2).trans rfl) | (go_at_call 61; refine (HFT.out _).mono ?_; rintro e w5 ⟨rfl, rfl⟩))
    go_ret2
    exact ⟨_, rfl, ((K1.out.trans ((Keep.refl No w1).alloc _)).trans hk').setCell (p := ⟨w1.heap.size, 2, none⟩) (fun e => absurd e (Nat.not_lt.2 K1.out.size)) _⟩
  · have hf : dfit per blocks l.length = false := hbad.resolve_left h1
    obtain ⟨most, rfl⟩ := Int.eq_ofNat_of_zero_le (show 0 ≤ a by omega)
    have HN := Lib.hid (rnew_any most n w (by omega) (by omega) (by omega) hn)
    rw [hf] at HFT
    clear h1 hbad hn hf
    go_enter Try.func22, Try.ntmps22
    go_wp2_with fail
    refine HN.out.mono ?_
    rintro e w1 ⟨rfl, -, hw⟩
    have k1 : Keep No w w1 := by rw [hw]; exact (Keep.refl _ _).alloc _
    have K1 := Lib.hid k1
    clear hw k1
    generalize hpp : some (⟨w.heap.size, 0, none⟩ : Addr) = p
    have hR := (H.out.keep K1.out).keep ((Keep.refl No w1).alloc (.cells #[.int .u32 (per : Nat), .int .u32 (blocks : Nat), .slice none 0 0, .pointer p, .slice none 0 0] 61))
    have hb2 := blk_at w1 (.cells #[.int .u32 (per : Nat), .int .u32 (blocks : Nat), .slice none 0 0, .pointer p, .slice none 0 0] 61) rfl
    have HR := Lib.hid hR
    clear hR
    go_wp2_with (first | (at_builtin; refine wpList_app1 rfl _ _ rfl _ l HR.out hl rfl rfl ?_; intro A' c' w' ho' hk'; have hb3 := hk'.blk hb2 (fun h => h); have fr := blk_free hb3 2; have cc := (blk_cell hb3 2).trans rfl) | (go_at_call 61; refine (HFT.out _).mono ?_; rintro e w5 ⟨rfl, rfl⟩))
    go_ret2
    exact ⟨_, rfl, ((K1.out.trans ((Keep.refl No w1).alloc _)).trans hk').setCell (p := ⟨w1.heap.size, 2, none⟩) (fun e => absurd e (Nat.not_lt.2 K1.out.size)) _⟩
set_option maxRecDepth 100000 in
theorem rdnew_any (per blocks n most : Nat) (v : Value) (l : List Nat) (w : World) (hp : per < 4294967296) (hb : blocks < 4294967296) (hn : n < 18446744073709551616) (h0 : 0 < most) (h64 : most ≤ 64) (hn0 : 0 < n)
    (h : Rd w v l.length (l.map u64v)) (hl : l.length ≤ 1048576) (hf : dfit per blocks l.length = true) :
    Calls Try.prog 22 #[.int .u32 per, .int .u32 blocks, v, .int .i64 most, .int .u64 n] w fun e w' => ∃ g qb C X, e = .returned (.tuple #[.pointer (some ⟨g, 0, none⟩), .bool true]) ∧
      RD X w.heap.size w'.heap.size w' g ⟨per, blocks, l, most, n, [], []⟩ qb C (.slice none 0 0) (fun _ => ⟨.slice none 0 0, .slice none 0 0, .slice none 0 0, .slice none 0 0⟩) (fun _ => w.heap.size) ∧ (∀ k, X k → w.heap.size ≤ k ∧ k < w'.heap.size) ∧ Keep No w w' := by
  obtain ⟨A, c, rfl, hlc, -⟩ := id h
  have H := Lib.hid h
  have HFT := Lib.hid (fun W => rfit_any per blocks l.length W hp hb (by omega))
  have HN := Lib.hid (rnew_any most n w h0 h64 hn0 hn)
  rw [hf] at HFT
  clear h hp hb h0 h64 hn0 hn hf
  go_enter Try.func22, Try.ntmps22
  go_wp2_with fail
  refine HN.out.mono ?_
  rintro e w1 ⟨rfl, hq, hw⟩
  have k1 : Keep No w w1 := by rw [hw]; exact (Keep.refl _ _).alloc _
  have K1 := Lib.hid k1
  have HQ := Lib.hid hq
  clear hw k1 hq
  obtain ⟨qb, hqb⟩ : ∃ qb, qb = w.heap.size := ⟨_, rfl⟩
  have HQB := Lib.hid hqb
  rw [← hqb]
  clear hqb
  have hR := (H.out.keep K1.out).keep ((Keep.refl No w1).alloc (.cells #[.int .u32 (per : Nat), .int .u32 (blocks : Nat), .slice none 0 0, .pointer (some ⟨qb, 0, none⟩), .slice none 0 0] 61))
  have hb2 := blk_at w1 (.cells #[.int .u32 (per : Nat), .int .u32 (blocks : Nat), .slice none 0 0, .pointer (some ⟨qb, 0, none⟩), .slice none 0 0] 61) rfl
  have HR := Lib.hid hR
  clear hR
  go_wp2_with (first | (at_builtin; refine wpList_app1 rfl _ _ rfl _ l HR.out hl rfl rfl ?_; intro A' c' w' ho' hk'; have hb3 := hk'.blk hb2 (fun h => h); have fr := blk_free hb3 2; have cc := (blk_cell hb3 2).trans rfl) | (go_at_call 61; refine (HFT.out _).mono ?_; rintro e w5 ⟨rfl, rfl⟩))
  go_ret2
  obtain ⟨_, _, e, ho, hA⟩ := ho'
  injection e with e1 _ e2
  subst e1 e2
  have k2 : Keep No w w' := (K1.out.trans ((Keep.refl No w1).alloc _)).trans hk'
  have k3 : KeepZ (fun k s => k = w1.heap.size ∧ s = some 61) w' (w'.setCell ⟨w1.heap.size, 2, none⟩ (.slice A' l.length c')) := (KeepZ.refl _ w').setCell (p := ⟨w1.heap.size, 2, none⟩) hb3 ⟨rfl, rfl⟩ _
  have ho3 := k3.row ho (fun i _ ⟨_, e⟩ => by simp at e)
  have hs1 := K1.out.size
  have hq3 := HQ.out.keep (T := fun k s => k = w1.heap.size ∧ s = some 61) (((KeepZ.of ((Keep.refl No w1).alloc _)).then hk').trans k3) (fun k => ⟨fun ⟨_, e⟩ => by simp at e, fun ⟨_, e⟩ => by simp at e⟩)
  rw [← HQB.out] at hq3
  have hfr : ∀ b, (Value.slice A' l.length c').ownBlock = some b → w.heap.size ≤ b := fun b hb => by
    have h1 := hA b hb
    simp only [World.size_alloc] at h1
    omega
  refine ⟨w1.heap.size, qb, _, fun k => (Value.slice A' l.length c').ownBlock = some k, rfl, ⟨blk_set hb3 2 _, hs1, ?_, ⟨A', c', rfl, ho3, fun b hb => ⟨hb, hfr b hb⟩⟩, ⟨none, 0, rfl, World.ownsRow_nil _ _ _ _, fun b hb => by simp [Value.ownBlock] at hb⟩, fun i hi => absurd hi (Nat.not_lt_zero _), fun _ => Nat.le_refl _, Nat.le_refl _, Nat.le_trans k2.size k3.size, Nat.le_refl _⟩, fun k hk => ⟨hfr k hk, own_lt ho3 hk⟩, ?_⟩
  · rw [HQB.out] at hq3 ⊢
    exact hq3
  · exact k2.setCell (p := ⟨w1.heap.size, 2, none⟩) (fun e => absurd e (Nat.not_lt.2 hs1)) _
end
end Go.Proofs.Ytimdaioojnohmaa

namespace Go.Proofs.Ytimdaioojnohmaa
open Go.RowKit Go.Maps
section
variable {X : Nat → Prop} {B hi : Nat} {w w' : World} {g qb : Nat} {D : DD} {C T : Value} {vs : Nat → RV} {lo : Nat → Nat}
def TG (C : Value) (g : Nat) : Nat → Option TypeId → Prop := fun k s => (k = g ∧ s = some 61) ∨ (C.ownBlock = some k ∧ s = some 29)
theorem RD.grow (h : RD X B hi w g D qb C T vs lo) (blocks : Nat) (l : List Nat) (A : Option Addr) (k : Nat)
    (hb : w'.heap[g]? = some (.cells #[.int .u32 (D.per : Nat), .int .u32 (blocks : Nat), .slice A l.length k, .pointer (some ⟨qb, 0, none⟩), T] 61 (0, 0)))
    (ho : w'.ownsRow 0 29 1 (.slice A l.length k) l.length (l.map u64v)) (hn : ∀ b, (Value.slice A l.length k).ownBlock = some b → C.ownBlock = some b ∨ (w.heap.size ≤ b ∧ b < w'.heap.size)) (hk : KeepZ (TG C g) w w') :
    RD (fun b => X b ∨ (Value.slice A l.length k).ownBlock = some b) B w'.heap.size w' g { D with blocks := blocks, chunks := l } qb (.slice A l.length k) T vs lo := by
  have no : ∀ k s, s = some 109 ∨ s = some 111 ∨ s = some 4 ∨ s = some 9 ∨ s = some 137 ∨ s = some 149 → ¬ TG C g k s := fun k s e h => by
    rcases e with rfl | rfl | rfl | rfl | rfl | rfl <;> rcases h with ⟨_, h⟩ | ⟨_, h⟩ <;> simp at h
  obtain ⟨A0, k0, hCe, hoC, hCX⟩ := h.c
  refine ⟨hb, h.base, h.q.keep hk (fun k => ⟨no _ _ (by simp), no _ _ (by simp)⟩), ⟨A, k, rfl, ho, fun b hb => ⟨.inr hb, ?_⟩⟩, ?_, fun i hi => ?_, h.mono, h.lo0, Nat.le_trans (Nat.le_trans h.hi1 h.hi2) hk.size, Nat.le_refl _⟩
  · rcases hn b hb with e | e
    · exact (hCX b e).2
    · exact Nat.le_trans h.bsize e.1
  · obtain ⟨A, k, e, ho, hb⟩ := h.t
    exact ⟨A, k, e, hk.row ho (fun i _ => no _ _ (by simp)), hb⟩
  · have ht := h.ts i hi
    refine ⟨ht.p.keepZ hk (fun k _ _ => no _ _ (by simp)), ht.t.keepZ hk (fun k _ _ => no _ _ (by simp)), ht.s.keepZ hk (fun k _ _ => no _ _ (by simp)), ?_⟩
    obtain ⟨⟨A2, k2, e2, ho2⟩, hx2⟩ := ht.f
    refine ⟨⟨A2, k2, e2, hk.row ho2 (fun i hi h => ?_)⟩, fun b hb h => ?_⟩
    · rcases h with ⟨_, h⟩ | ⟨h, _⟩
      · simp at h
      · exact hx2 i (by rw [e2]; exact hi) (hCX i h).1
    · rcases h with h | h
      · exact hx2 b hb h
      · rcases hn b h with e | e
        · exact hx2 b hb (hCX b e).1
        · rw [e2] at hb
          have := own_lt ho2 hb
          omega
theorem TG.td (h : RD X B hi w g D qb C T vs lo) : ∀ k s, TG C g k s → TD X B k s := fun k s e => by
  obtain ⟨A0, k0, hCe, hoC, hCX⟩ := h.c
  rcases e with ⟨rfl, e⟩ | ⟨h1, e⟩
  · exact ⟨h.base, by simp [e]⟩
  · exact ⟨(hCX k h1).2, by simp [e, (hCX k h1).1]⟩
/-- What Grow leaves. -/
def RGrown (X : Nat → Prop) (B : Nat) (w w' : World) (g : Nat) (D : DD) (qb : Nat) (T : Value) (vs : Nat → RV) (lo : Nat → Nat) : Prop :=
  ∃ C' X', RD X' B w'.heap.size w' g D qb C' T vs lo ∧ (∀ k, X' k → X k ∨ (w.heap.size ≤ k ∧ k < w'.heap.size)) ∧ (∀ k, X k → X' k) ∧ KeepZ (TD X B) w w'
theorem RGrown.same (h : RD X B hi w g D qb C T vs lo) (hk : Keep No w w') : RGrown X B w w' g D qb T vs lo :=
  ⟨C, X, (h.no hk).up (Nat.le_trans h.hi2 hk.size) (Nat.le_refl _), fun _ h => .inl h, fun _ h => h, KeepZ.of hk⟩
set_option maxRecDepth 100000 in
set_option maxHeartbeats 2000000 in
theorem rgrow_any (blocks : Nat) (v : Value) (l : List Nat) (h : RD X B hi w g D qb C T vs lo) (hper : D.per < 4294967296) (hfit : dfit D.per D.blocks D.chunks.length = true) (hb32 : blocks < 4294967296) (hb32' : D.blocks < 4294967296)
    (hl : ∀ W, KeepZ (fun k _ => B ≤ k) w W → Rd W v l.length (l.map u64v)) (hln : l.length ≤ 1048576) :
    Calls Try.prog 67 #[.pointer (some ⟨g, 0, none⟩), .int .u32 (blocks : Nat), v] w fun e w' => e = .returned (.int .i64 ((dgrow D blocks l).1 : Nat)) ∧ RGrown X B w w' g (dgrow D blocks l).2 qb T vs lo := by
  obtain ⟨c0, c1, c2, c3, c4⟩ := h.cells
  have hf := (dfit_iff _ _ _).1 hfit
  have H := Lib.hid h
  obtain ⟨A, c, rfl, hlc, -⟩ := id (hl w (KeepZ.refl _ _))
  obtain ⟨C0, kc, hCe, hoC, -⟩ := h.c
  subst hCe
  have hch : N64 w (.slice C0 D.chunks.length kc) D.chunks := Sl.of_own hoC
  clear h hoC
  by_cases h1 : blocks < D.blocks
  · rw [dgrow_bad D blocks l (.inl h1)]
    have e1 : decide ((blocks : Int) < (D.blocks : Int)) = true := by simp; omega
    have e2 : decide (blocks < D.blocks) = true := by simp; omega
    clear h1 hf hfit hl hch
    generalize D.blocks = db at *
    generalize D.per = dp at *
    go_enter Try.func67, Try.ntmps67
    go_wp2_with fail
    go_ret
    exact ⟨rfl, RGrown.same H.out (Keep.refl _ _)⟩
  · have e1 : decide ((blocks : Int) < (D.blocks : Int)) = false := by simp; omega
    have e2 : decide (blocks < D.blocks) = false := by simp; omega
    have HFT := Lib.hid (fun W => rfit_any D.per blocks l.length W hper hb32 (by omega))
    cases hft : dfit D.per blocks l.length
    · rw [dgrow_bad D blocks l (.inr (.inl hft))]
      rw [hft] at HFT
      clear h1 hf hfit hl hch hft
      generalize D.blocks = db at *
      generalize D.per = dp at *
      go_enter Try.func67, Try.ntmps67
      go_wp2_with (go_at_call 61; refine (HFT.out _).mono ?_; rintro e w5 ⟨rfl, rfl⟩)
      go_ret
      exact ⟨rfl, RGrown.same H.out (Keep.refl _ _)⟩
    · rw [hft] at HFT
      have hle : D.chunks.length ≤ l.length := by
        have hf2 := (dfit_iff _ _ _).1 hft
        have := Nat.div_le_div_right (c := D.per) (show D.blocks - 1 ≤ blocks - 1 by omega)
        omega
      have hne : l ≠ [] := by
        rintro rfl
        have hf2 := (dfit_iff _ _ _).1 hft
        have := hf2.2.2.2
        simp at this
      obtain ⟨b, o, c', hv, hc', htk⟩ := (hl w (KeepZ.refl _ _)).at64 hne
      injection hv with hA _ hcc
      subst hA hcc
      have g1 : decide (l.length < D.chunks.length) = false := by simp; omega
      have g2 : decide ((l.length : Int) < (D.chunks.length : Int)) = false := by simp; omega
      have hl64 : N64 w (.slice (some ⟨b, o, none⟩) l.length c) l := by have := htk l.length (Nat.le_refl _); rwa [List.take_length] at this
      have HC64 := Lib.hid hch
      have HL64 := Lib.hid hl64
      have HL := Lib.hid hl
      have HH1 := Lib.hid h1
      have HFT2 := Lib.hid hft
      clear hch hl64 hl hf hfit hft htk h1
      go_enter Try.func67, Try.ntmps67
      go_wp2_with (go_at_call 61; refine (HFT.out _).mono ?_; rintro e w5 ⟨rfl, rfl⟩)
      go_loopw [7] (fun iv wr => ∃ i, i ≤ D.chunks.length ∧ iv = .int .i64 (i : Nat) ∧ Hid (l.take i = D.chunks.take i) ∧ Hid (Keep No w wr)) (fun iv _ => D.chunks.length - (intOf iv).toNat)
      case atStart => exact ⟨0, Nat.zero_le _, rfl, rfl, Keep.refl _ _⟩
      case round =>
        obtain ⟨i, hi', rfl, htk, hk⟩ := hrel
        have d2 := hk.out.cellSome c2 (fun h => h)
        by_cases hlt : i < D.chunks.length
        · have hlt2 : i < l.length := by omega
          obtain ⟨b1, o1, k1, hv1, -, x1⟩ := (HC64.out.keep hk.out).at_ i hlt
          injection hv1 with a1 _ a3
          subst a1 a3
          obtain ⟨b2, o2, k2, hv2, -, x2⟩ := (HL64.out.keep hk.out).at_ i hlt2
          injection hv2 with a1 _ a3
          injection a1 with a1
          injection a1 with a1 a2
          subst a1 a2 a3
          have hs1 := List.take_succ_eq_append_getElem hlt2
          have hs2 := List.take_succ_eq_append_getElem hlt
          have hbad : l[i] ≠ D.chunks[i] → l.take D.chunks.length ≠ D.chunks := fun hne e => hne (by
            have h1 : (l.take D.chunks.length)[i]? = D.chunks[i]? := by rw [e]
            rw [List.getElem?_take, if_pos hlt, List.getElem?_eq_getElem hlt, List.getElem?_eq_getElem hlt2] at h1
            exact Option.some.inj h1)
          have HBAD := Lib.hid hbad
          have HS1 := Lib.hid hs1
          have HS2 := Lib.hid hs2
          clear hs1 hs2 hbad
          generalize l[i] = p at *
          generalize D.chunks[i] = q at *
          by_cases hpq : p = q
          · subst hpq
            have e9 : ((p : Int) != (p : Int)) = false := by simp
            have HT : Hid (l.take (i + 1) = D.chunks.take (i + 1)) := by show _ = _; rw [HS1.out, HS2.out, htk.out]
            go_wp2_with fail
            go_big_quiet (fail)
            go_wp2_with fail
            exact ⟨⟨i + 1, by omega, by simp, HT, hk.out.drewN _⟩, by simp [intOf]; omega⟩
          · have HBD := Lib.hid (dgrow_bad D blocks l (.inr (.inr (HBAD.out hpq))))
            have e9 : ((p : Int) != (q : Int)) = true := by rw [bne_iff_ne]; omega
            clear hpq
            go_wp2_with fail
            go_big_quiet (fail)
            go_wp2_with fail
            go_ret
            rw [HBD.out]
            exact ⟨rfl, RGrown.same H.out (hk.out.drewN _)⟩
        · obtain rfl : i = D.chunks.length := by omega
          have htk2 := htk.out
          rw [List.take_length] at htk2
          have HOK := Lib.hid (dgrow_ok D blocks l HH1.out HFT2.out htk2)
          have hr := H.out.no hk.out
          have hGB := hr.blk
          have f1 := blk_free hGB 1
          have d1 := (blk_cell hGB 1).trans rfl
          have k1 : KeepZ (TG (.slice C0 D.chunks.length kc) g) wr (wr.setCell ⟨g, 1, none⟩ (.int .u32 (blocks : Nat))) := (KeepZ.refl _ wr).setCell (p := ⟨g, 1, none⟩) hGB (.inl ⟨rfl, rfl⟩) _
          have hR2 := HL.out _ ((KeepZ.of hk.out).trans (k1.mono (fun k s e => ((TG.td hr) k s e).1)))
          have hl2 : N64 (wr.setCell ⟨g, 1, none⟩ (.int .u32 (blocks : Nat))) (.slice (some ⟨b, o, none⟩) l.length c) l := hR2.sl64 (fun e => hne e)
          have hGB2 := blk_set hGB 1 (.int .u32 (blocks : Nat))
          obtain ⟨C1, kc1, hCe, hoC, -⟩ := hr.c
          injection hCe with a1 _ a3
          subst a1 a3
          have hoC2 := ownsRow_setCell_other hoC (a := ⟨g, 1, none⟩) (fun e => by
            obtain ⟨cur, hcur⟩ := own_blk hoC e
            exact blk_ne hGB hcur (by decide) rfl) (.int .u32 (blocks : Nat))
          have HR := Lib.hid hr
          have K1 := Lib.hid k1
          have HTK := Lib.hid htk2
          have HKK := Lib.hid hk.out
          clear hr k1 htk2 htk hk hR2 hoC
          go_upto_region 9 with fail
          generalize wr.setCell ⟨g, 1, none⟩ (.int .u32 (blocks : Nat)) = w1 at *
          have d2 := (blk_cell hGB2 2).trans rfl
          have hn9 : D.chunks.length = D.chunks.length := rfl
          generalize hn0 : D.chunks.length = n0 at *
          clear hn9
          have hnm : n0 + (l.length - n0) = l.length := by omega
          have hcat : D.chunks.map u64v ++ (l.drop n0).map u64v = l.map u64v := by
            rw [← HTK.out, ← List.map_append, List.take_append_drop]
          have hwn := own_keep hoC2 ((Keep.refl No _).drew) (fun _ _ h => h)
          have hone := u64v_one (l.drop n0)
          have hlen : ((l.drop n0).map u64v).length = (l.length - n0) * 1 := by simp
          have h63 : n0 + (l.length - n0) ≤ maxLen := by simp only [maxLen]; omega
          have hbts : (n0 + (l.length - n0)) * 8 ≤ 140737488355328 := by omega
          have hKB : ∀ w', Keep (Own (.slice C0 n0 kc)) w1.drew w' → w'.heap[g]? = some (.cells (#[.int .u32 (D.per : Nat), .int .u32 (blocks : Nat), .slice C0 n0 kc, .pointer (some ⟨qb, 0, none⟩), T]) 61 (0, 0)) :=
            fun w' hk' => hk'.blk (((Keep.refl No w1).drew).blk hGB2 (fun h => h)) (fun e => by
              obtain ⟨cur, hcur⟩ := own_blk hoC2 e
              exact blk_ne hGB2 hcur (by decide) rfl)
          have HNM := Lib.hid hnm
          have HCAT := Lib.hid hcat
          have HN0 := Lib.hid hn0
          clear hnm hcat hn0
          have hfin : ∀ A' k' w', w'.ownsRow 0 29 1 (.slice A' (n0 + (l.length - n0)) k') (n0 + (l.length - n0)) (D.chunks.map u64v ++ (l.drop n0).map u64v) → Keep (Own (.slice C0 n0 kc)) w1.drew w' →
              (∀ k, (Value.slice A' (n0 + (l.length - n0)) k').ownBlock = some k → (Value.slice C0 n0 kc).ownBlock = some k ∨ (w1.drew.heap.size ≤ k ∧ k < w'.heap.size)) →
              RGrown X B w (w'.setCell ⟨g, 2, none⟩ (.slice A' l.length k')) g (dgrow D blocks l).2 qb T vs lo := fun A' k' w' ho' hk' hn' => by
            rw [HNM.out, HCAT.out] at ho'
            rw [HNM.out] at hn'
            have hb' := hKB w' hk'
            have kT : KeepZ (TG (.slice C0 n0 kc) g) wr (w'.setCell ⟨g, 2, none⟩ (.slice A' l.length k')) := (K1.out.drew.own hwn hk' (fun i hi => .inr ⟨hi, rfl⟩)).setCell hb' (.inl ⟨rfl, rfl⟩) _
            have hg' := blk_set hb' 2 (.slice A' l.length k')
            have ho2 := ownsRow_setCell_other ho' (a := ⟨g, 2, none⟩) (fun e => by
              obtain ⟨cur, hcur⟩ := own_blk ho' e
              exact blk_ne hb' hcur (by decide) rfl) (.slice A' l.length k')
            have kS := K1.out.size
            have hgr := HR.out.grow blocks l A' k' hg' ho2 (fun b hb => by
              rcases hn' b hb with e | e
              · exact .inl e
              · exact .inr ⟨Nat.le_trans kS e.1, own_lt ho2 hb⟩) kT
            rw [HOK.out]
            refine ⟨_, _, hgr, fun k hk => ?_, fun k hk => .inl hk, (KeepZ.of HKK.out).trans (kT.mono (TG.td HR.out))⟩
            rcases hk with hk | hk
            · exact .inl hk
            · rcases hn' k hk with e | e
              · obtain ⟨_, _, e9, _, hCX⟩ := HR.out.c
                exact .inl (hCX k e).1
              · exact .inr ⟨Nat.le_trans (Nat.le_trans HKK.out.size kS) e.1, own_lt ho2 hk⟩
          have HFIN := Lib.hid hfin
          have HKB := Lib.hid hKB
          clear hfin hKB
          by_cases hcn : c = n0
          · have hso : Sl w1.drew (.slice (some ⟨b, o, none⟩) (l.length - n0) 0) (l.length - n0) ((l.drop n0).map u64v) := by
              have e0 : l.length - n0 = 0 := by omega
              have e1 : l.drop n0 = [] := List.drop_eq_nil_of_le (by omega)
              rw [e0, e1]
              exact .inr ⟨b, o, 0, rfl, Nat.le_refl _, fun j u hj => by simp at hj⟩
            go_region_law (refine step_app rfl _ _ 41 rfl 29 _ 1 8 Try.underlying41 Try.info29 rfl (by decide) _ n0 _ hwn rfl _ (l.length - n0) _ hso rfl hlen hone hbts h63 ?_; intro A' k' w' ho' hk' hn'; have hb' := HKB.out w' hk'; have fr := blk_free hb' 2; have cc := (blk_cell hb' 2).trans rfl)
            all_goals
              go_wp2_with fail
              go_ret
              have hz := HFIN.out A' k' w' ho' hk' hn'
              rw [HOK.out] at hz ⊢
              exact ⟨rfl, hz⟩
          · have hcn1 : decide (c = n0) = false := decide_eq_false hcn
            have hso : Sl w1.drew (.slice (some ⟨b, o + n0, none⟩) (l.length - n0) (c - n0)) (l.length - n0) ((l.drop n0).map u64v) := by
              rcases hl2 with ⟨e, _⟩ | ⟨b2, o2, c2, e, hc2, hx⟩
              · cases e
              · injection e with e1 _ e3
                injection e1 with e1
                injection e1 with e1 e2
                subst e1 e2 e3
                refine .inr ⟨b, o + n0, c - n0, rfl, by omega, fun j u hj => ?_⟩
                rw [List.getElem?_map, List.getElem?_drop] at hj
                rw [Nat.add_assoc]
                exact hx (n0 + j) u (by rw [List.getElem?_map]; exact hj)
            go_region_law (refine step_app rfl _ _ 41 rfl 29 _ 1 8 Try.underlying41 Try.info29 rfl (by decide) _ n0 _ hwn rfl _ (l.length - n0) _ hso rfl hlen hone hbts h63 ?_; intro A' k' w' ho' hk' hn'; have hb' := HKB.out w' hk'; have fr := blk_free hb' 2; have cc := (blk_cell hb' 2).trans rfl)
            all_goals
              go_wp2_with fail
              go_ret
              have hz := HFIN.out A' k' w' ho' hk' hn'
              rw [HOK.out] at hz ⊢
              exact ⟨rfl, hz⟩
end
end Go.Proofs.Ytimdaioojnohmaa
