/-
  The document's disk: Told 65.
-/
import Derived.Test.YtimdaioojnohmaaMRState
import Derived.Test.YtimdaioojnohmaaMDTold
namespace Go.Proofs.Ytimdaioojnohmaa
open Go.RowKit Go.Maps
theorem flat_same {α β : Type} (f : α → List β) (l : List α) (k : Nat) (x : α) (hk : k < l.length) (h : f x = f l[k]) : (l.set k x).flatMap f = l.flatMap f := by
  induction l generalizing k with
  | nil => rfl
  | cons y l ih =>
    cases k with
    | zero => rw [List.set_cons_zero, List.flatMap_cons, List.flatMap_cons, h]; rfl
    | succ k => rw [List.set_cons_succ, List.flatMap_cons, List.flatMap_cons, ih k (by simpa using hk) h]
def TW (l1 l2 : Nat) : Nat → Option TypeId → Prop := fun k s => l1 ≤ k ∧ k < l2 ∧ (s = some 4 ∨ s = some 9)
theorem TW.td {X : Nat → Prop} {B l1 l2 : Nat} (h : B ≤ l1) : ∀ k s, TW l1 l2 k s → TD X B k s := fun k s ⟨h1, _, e⟩ => ⟨Nat.le_trans h h1, by rcases e with e | e <;> simp [e]⟩
theorem RTAt.told {X : Nat → Prop} {w : World} {lo hi : Nat} {x : DTask} {v : RV} (h : RTAt X w lo hi x v) (k : Nat) (hk : k < x.parts.length) (s : ByteArray) : ∃ bt ct bg cg, v.t = .slice (some ⟨bt, 0, none⟩) x.parts.length ct ∧ x.parts.length ≤ ct ∧ v.s = .slice (some ⟨bg, 0, none⟩) x.parts.length cg ∧ x.parts.length ≤ cg ∧
    (∃ cur, w.heap[bt]? = some (.cells cur 4 (0, 0))) ∧ (∃ cur, w.heap[bg]? = some (.cells cur 9 (0, 0))) ∧
    RTAt X ((w.setCell ⟨bt, k, none⟩ (.bool true)).setCell ⟨bg, k, none⟩ (.string s)) lo hi (ttold x k s) v ∧ KeepZ (TW lo hi) w ((w.setCell ⟨bt, k, none⟩ (.bool true)).setCell ⟨bg, k, none⟩ (.string s)) := by
  obtain ⟨hp, ht, hs, hf⟩ := h
  obtain ⟨bt, ct, ht1, ht2, ht3, ht4, ⟨ct5, ht5⟩, -⟩ := ht.shape (by omega)
  obtain ⟨bg, cg, hs1, hs2, hs3, hs4, ⟨cs5, hs5⟩, -⟩ := hs.shape (by omega)
  have hne : bt ≠ bg := blk_ne ht5 hs5 (by decide)
  have hz1 : KeepZ (TW lo hi) w (w.setCell ⟨bt, k, none⟩ (.bool true)) := (KeepZ.refl _ w).setCell (p := ⟨bt, k, none⟩) ht5 ⟨ht3, ht4, .inl rfl⟩ _
  have hz : KeepZ (TW lo hi) w ((w.setCell ⟨bt, k, none⟩ (.bool true)).setCell ⟨bg, k, none⟩ (.string s)) :=
    hz1.setCell (p := ⟨bg, k, none⟩) ((blk_far (p := ⟨bt, k, none⟩) (Ne.symm hne) _).trans hs5) ⟨hs3, hs4, .inr rfl⟩ _
  have no : ∀ k s, s = some 137 ∨ s = some 29 → ¬ TW lo hi k s := fun k s e ⟨_, _, h⟩ => by
    rcases e with rfl | rfl <;> rcases h with h | h <;> simp at h
  have hlen : (ttold x k s).parts.length = x.parts.length := by simp [ttold]
  have hgk : x.parts.getD k default = x.parts[k] := getD_at _ k hk
  refine ⟨bt, ct, bg, cg, ht1, ht2, hs1, hs2, ⟨_, ht5⟩, ⟨_, hs5⟩, ⟨?_, ?_, ?_, ?_⟩, hz⟩
  · have := hp.keepZ hz (fun k _ _ => no _ _ (by simp))
    rw [hlen]
    have e : (ttold x k s).parts.flatMap acells = x.parts.flatMap acells := flat_same acells x.parts k _ hk (by rw [hgk]; rfl)
    rw [e]
    exact this
  · obtain ⟨A, c, e, ho, hb⟩ := ht
    rw [ht1] at e
    injection e with e1 _ e2
    subst e1 e2
    have h2 := ownsRow_setCell_other (own_set ho k (.bool true)) (a := ⟨bg, k, none⟩) (fun e => by simp [Value.ownBlock] at e; exact hne e) (.string s)
    rw [hlen]
    have e : (ttold x k s).parts.map toldc = (x.parts.map toldc).set k (.bool true) := by simp only [ttold, List.map_set]; rfl
    rw [e]
    exact ⟨_, _, ht1, h2, hb⟩
  · obtain ⟨A, c, e, ho, hb⟩ := hs
    rw [hs1] at e
    injection e with e1 _ e2
    subst e1 e2
    have h2 := own_set (ownsRow_setCell_other ho (a := ⟨bt, k, none⟩) (fun e => by simp [Value.ownBlock] at e; exact hne e.symm) (.bool true)) k (.string s)
    rw [hlen]
    have e : (ttold x k s).parts.map gotc = (x.parts.map gotc).set k (.string s) := by simp only [ttold, List.map_set]; rfl
    rw [e]
    exact ⟨_, _, hs1, h2, hb⟩
  · exact ⟨hf.1.keepZ hz (fun k => no _ _ (by simp)), hf.2⟩
section
variable {X : Nat → Prop} {B hi : Nat} {w w' : World} {g qb : Nat} {D : DD} {C T : Value} {vs : Nat → RV} {lo : Nat → Nat}
theorem rkind_told (t : DTask) (k : Nat) (s : ByteArray) : rkind (ttold t k s) = rkind t := by
  have : ((ttold t k s).parts = []) = (t.parts = []) := by
    unfold ttold
    rw [List.set_eq_nil_iff]
  unfold rkind
  simp only [this]
  rfl
theorem RD.told (h : RD X B hi w g D qb C T vs lo) (i : Nat) (hil : i < D.ts.length) (t' : DTask) (h1 : rkind t' = rkind (D.ts.getD i default)) (h2 : t'.state = (D.ts.getD i default).state) (ht : RTAt X w' (lo i) (lo (i + 1)) t' (vs i)) (hz : KeepZ (TW (lo i) (lo (i + 1))) w w') : RD X B hi w' g { D with ts := D.ts.set i t' } qb C T vs lo := by
  have no : ∀ k s, s = some 61 ∨ s = some 109 ∨ s = some 111 ∨ s = some 149 ∨ s = some 137 ∨ s = some 29 → ¬ TW (lo i) (lo (i + 1)) k s := fun k s e ⟨_, _, h⟩ => by
    rcases e with rfl | rfl | rfl | rfl | rfl | rfl <;> rcases h with h | h <;> simp at h
  have hlen : (D.ts.set i t').length = D.ts.length := List.length_set
  have hget : ∀ x, x ≠ i → (D.ts.set i t').getD x default = D.ts.getD x default := fun x hx => by rw [getD_set, if_neg (by omega)]
  have hgi : (D.ts.set i t').getD i default = t' := by rw [getD_set, if_pos ⟨rfl, hil⟩]
  refine ⟨hz.blk h.blk (no _ _ (by simp [sig])), h.base, h.q.keep hz (fun k => ⟨no _ _ (by simp), no _ _ (by simp)⟩), ?_, ?_, fun j hj => ?_, h.mono, h.lo0, by simp only [hlen]; exact h.hi1, Nat.le_trans h.hi2 hz.size⟩
  · obtain ⟨A, k, e, ho, hb⟩ := h.c
    exact ⟨A, k, e, hz.row ho (fun i _ => no _ _ (by simp)), hb⟩
  · obtain ⟨A, k', e, ho, hb⟩ := h.t
    simp only [hlen]
    have e2 : (List.range D.ts.length).flatMap (fun x => tcell ((D.ts.set i t').getD x default) (vs x)) = (List.range D.ts.length).flatMap (fun x => tcell (D.ts.getD x default) (vs x)) := by
      congr 1
      funext x
      by_cases e : x = i
      · subst e
        rw [hgi]
        unfold tcell
        rw [h1, h2]
      · rw [hget x e]
    rw [e2]
    exact ⟨A, k', e, hz.row ho (fun i _ => no _ _ (by simp)), hb⟩
  · simp only [hlen] at hj
    by_cases e : j = i
    · subst e
      simp only [hgi]
      exact ht
    · simp only [hget j e]
      refine (h.ts j hj).keepZ hz (fun k h1 h2 => ?_) (fun k _ => no _ _ (by simp))
      have : ¬ (lo i ≤ k ∧ k < lo (i + 1)) := fun ⟨h3, h4⟩ => by
        rcases Nat.lt_or_gt_of_ne e with e | e
        · have := lo_le h.mono (show j + 1 ≤ i by omega); omega
        · have := lo_le h.mono (show i + 1 ≤ j by omega); omega
      exact ⟨no _ _ (by simp), fun ⟨h3, h4, _⟩ => this ⟨h3, h4⟩, fun ⟨h3, h4, _⟩ => this ⟨h3, h4⟩⟩
set_option maxRecDepth 100000 in
set_option maxHeartbeats 4000000 in
theorem rtold_any (id : Nat) (k : Int) (s : ByteArray) (h : RD X B hi w g D qb C T vs lo) (few : D.ts.length ≤ 1048576) (hsm : DSm D) (hwok : WOk D) (hid : id < 18446744073709551616) :
    Calls Try.prog 65 #[.pointer (some ⟨g, 0, none⟩), .int .u64 (id : Nat), .int .i64 k, .string s] w fun e w' => e = .returned (.int .i64 ((dtold D id k s).1 : Nat)) ∧ RD X B hi w' g (dtold D id k s).2 qb C T vs lo ∧ KeepZ (TD X B) w w' := by
  have c4 := h.cells.2.2.2.2
  have H := Lib.hid h
  by_cases hno : id = 0 ∨ D.ts.length < id
  · rw [dtold_no D id k s hno]
    obtain ⟨A, k, rfl, -, -⟩ := h.t
    have hw := IntWalk.u64_in (D.ts.length : Int) (by omega)
    clear h hsm hwok
    by_cases h0 : id = 0
    · subst h0
      go_enter Try.func65, Try.ntmps65
      go_wp2_with fail
      go_ret
      exact ⟨rfl, H.out, KeepZ.refl _ _⟩
    · have e1 : decide ((id : Int) < 1) = false := by simp; omega
      have e2 : D.ts.length < id := by omega
      clear hno h0
      go_enter Try.func65, Try.ntmps65
      go_wp2_with fail
      go_ret
      exact ⟨rfl, H.out, KeepZ.refl _ _⟩
  · obtain ⟨n, rfl⟩ : ∃ n, id = n + 1 := ⟨id - 1, by omega⟩
    have hnl : n < D.ts.length := by omega
    have HDT := Lib.hid (show D.ts.getD n default = D.ts[n] from getD_at D.ts n hnl)
    obtain ⟨b, kk, rfl, hlk, -, -, hcell⟩ := h.row (by omega)
    have t0 := hcell n hnl 0 _ (by omega) rfl
    have t1 := hcell n hnl 1 _ (by omega) rfl
    have t2 := hcell n hnl 2 _ (by omega) rfl
    have t3 := hcell n hnl 3 _ (by omega) rfl
    have t4 := hcell n hnl 4 _ (by omega) rfl
    have t5 := hcell n hnl 5 _ (by omega) rfl
    have hT := Lib.hid (h.ts n hnl)
    have hw := IntWalk.u64_in (D.ts.length : Int) (by omega)
    have hw3 := IntWalk.i64_in ((n : Int) + 1) (by omega)
    have hw2 := IntWalk.i64_in (n : Int) (by omega)
    have e1 : decide (((n : Int) + 1) < 1) = false := by simp; omega
    have e2 : decide ((D.ts.length : Int) < ((n : Int) + 1)) = false := by simp; omega
    have h64 := hsm.at_ n
    have hcnt := (hsm D.ts[n] (List.getElem_mem hnl)).2
    rw [← HDT.out] at hcnt
    have HSM := Lib.hid hsm
    have HWOK := Lib.hid hwok
    have h40 := dtold_40 D n k s hnl
    have h51 := fun k => dtold_51 D n k s hnl
    have h2 := fun k => dtold_2 D n k s hnl
    have hok := fun k => dtold_ok D n k s hnl
    rw [← HDT.out] at h40 h51 h2 hok
    obtain ⟨A8, k8, sp⟩ : ∃ A k, (vs n).p = .slice A (D.ts.getD n default).parts.length k := by obtain ⟨A, k, e, -⟩ := hT.out.p; exact ⟨A, k, e⟩
    obtain ⟨A4, k4, st⟩ : ∃ A k, (vs n).t = .slice A (D.ts.getD n default).parts.length k := by obtain ⟨A, k, e, -⟩ := hT.out.t; exact ⟨A, k, e⟩
    obtain ⟨A9, k9, ss⟩ : ∃ A k, (vs n).s = .slice A (D.ts.getD n default).parts.length k := by obtain ⟨A, k, e, -⟩ := hT.out.s; exact ⟨A, k, e⟩
    obtain ⟨A29, k29, sf⟩ : ∃ A k, (vs n).f = .slice A (D.ts.getD n default).wants.length k := by obtain ⟨⟨A, k, e, -⟩, -⟩ := hT.out.f; exact ⟨A, k, e⟩
    rw [sp] at t1
    rw [st] at t2
    rw [ss] at t3
    rw [sf] at t4
    simp only [Nat.add_zero] at t0
    clear h hcell hno hid hsm hwok
    by_cases c40 : (D.ts.getD n default).state ≠ 1 ∨ k < 0 ∨ ((D.ts.getD n default).parts.length : Int) ≤ k
    · rw [h40 c40]
      clear h40 h51 h2 hok hcnt hT sp st ss sf h64
      generalize (D.ts.getD n default).state = st at *
      generalize (D.ts.getD n default).parts.length = np at *
      generalize (D.ts.getD n default).wants.length = nw at *
      generalize rkind (D.ts.getD n default) = rk at *
      by_cases a1 : st = 1
      · have b1 : ((st : Int) != 1) = false := by subst a1; rfl
        by_cases a2 : k < 0
        · have b2 : decide (k < 0) = true := by simp; omega
          clear c40 a2
          go_enter Try.func65, Try.ntmps65
          go_wp2_with fail
          go_ret
          exact ⟨rfl, H.out.no ((Keep.refl _ _).alloc _), (KeepZ.refl _ _).alloc _⟩
        · have b2 : decide (k < 0) = false := by simp; omega
          have b3 : decide ((np : Int) ≤ k) = true := by simp; omega
          clear c40 a2
          go_enter Try.func65, Try.ntmps65
          go_wp2_with fail
          go_ret
          exact ⟨rfl, H.out.no ((Keep.refl _ _).alloc _), (KeepZ.refl _ _).alloc _⟩
      · have b1 : ((st : Int) != 1) = true := by rw [bne_iff_ne]; omega
        clear c40 a1
        go_enter Try.func65, Try.ntmps65
        go_wp2_with fail
        go_ret
        exact ⟨rfl, H.out.no ((Keep.refl _ _).alloc _), (KeepZ.refl _ _).alloc _⟩
    · have hs1 : (D.ts.getD n default).state = 1 := by omega
      obtain ⟨j, rfl⟩ : ∃ j : Nat, k = j := ⟨k.toNat, by omega⟩
      have hj : j < (D.ts.getD n default).parts.length := by omega
      replace h51 := h51 j hs1 hj
      replace h2 := h2 j hs1 hj
      replace hok := hok j hs1 hj
      rw [hs1] at t5
      have b2 : decide ((j : Int) < 0) = false := by simp
      have b3 : decide (((D.ts.getD n default).parts.length : Int) ≤ (j : Int)) = false := decide_eq_false (by omega)
      clear h40 c40
      have hcntj := (hcnt _ (List.getElem_mem hj)).2
      clear hcnt
      obtain ⟨bt, ct, bg, cg, ht1, hct, hs1', hcg, ⟨curt, hbt⟩, ⟨curg, hbg⟩, htold, htz⟩ := hT.out.told j hj s
      rw [ht1] at st
      rw [hs1'] at ss
      injection st with e1 le e2
      clear le
      subst e1 e2
      injection ss with e1 le e2
      clear le
      subst e1 e2
      obtain ⟨b4, o4, y0, y1, y2, y3⟩ := hT.out.t.at_ j hj
      rw [ht1] at y0
      injection y0 with e1 le e2
      clear le
      injection e1 with e1
      injection e1 with e1
      subst e1 e2
      have y := y3 (.bool (D.ts.getD n default).parts[j].told) (by simp only [List.getElem?_map, List.getElem?_eq_getElem hj, Option.map_some]; rfl)
      clear y1 y2 y3
      have YA : ∀ (o : Obj) (u : Value) (bl of : Nat), w.cell? ⟨bl, of, none⟩ = some u → (w.alloc o).cell? ⟨bl, of, none⟩ = some u := fun o u bl of hc => ((Keep.refl No w).alloc o).cellSome hc (fun h => h)
      cases hto : (D.ts.getD n default).parts[j].told
      · rw [hto] at y
        obtain ⟨b8, c8, z0, z1, -, -, -, -, x4, -, -⟩ := hT.out.p.ask rfl j hj
        rw [sp] at z0
        injection z0 with e1 le e2
        clear le
        subst e1 e2
        have hrk2 : rkind (D.ts.getD n default) = 2 ↔ (D.ts.getD n default).write = false := by
          rw [rkind2]
          exact ⟨fun e => e.1, fun e => ⟨e, fun e2 => by rw [e2] at hj; exact Nat.not_lt_zero _ hj⟩⟩
        have hx8 := IntWalk.i64_in (8 * ((D.ts.getD n default).parts[j].cnt : Int)) (by omega)
        have hx7 := IntWalk.i64_in ((D.ts.getD n default).parts[j].cnt : Int) (by omega)
        by_cases c2 : (D.ts.getD n default).write = false ∧ s.size ≠ 8 * (D.ts.getD n default).parts[j].cnt
        · rw [h2 hto c2.1 c2.2]
          have hk2 := hrk2.2 c2.1
          rw [hk2] at t0
          have hne : ((s.size : Int) != 8 * ((D.ts.getD n default).parts[j].cnt : Int)) = true := by rw [bne_iff_ne]; omega
          clear h51 h2 hok hto htold htz hT sp ht1 hs1' sf hbt hbg hcntj hrk2 hk2 c2
          generalize (D.ts.getD n default).parts[j].cnt = cn at *
          generalize (D.ts.getD n default).parts.length = np at *
          generalize (D.ts.getD n default).wants.length = nw at *
          have ya := YA (.cells #[.int .i64 2, .slice (some ⟨b8, 0, none⟩) np k8, .slice (some ⟨bt, 0, none⟩) np ct, .slice (some ⟨bg, 0, none⟩) np cg, .slice A29 nw k29, .int .i64 1] 149) _ _ _ y
          have x4a := YA (.cells #[.int .i64 2, .slice (some ⟨b8, 0, none⟩) np k8, .slice (some ⟨bt, 0, none⟩) np ct, .slice (some ⟨bg, 0, none⟩) np cg, .slice A29 nw k29, .int .i64 1] 149) _ _ _ x4
          clear YA
          go_enter Try.func65, Try.ntmps65
          go_wp2_with fail
          go_ret
          exact ⟨rfl, H.out.no ((Keep.refl _ _).alloc _), (KeepZ.refl _ _).alloc _⟩
        · have hok' := hok hto (by
            cases hw : (D.ts.getD n default).write
            · right; exact Classical.byContradiction fun e => c2 ⟨hw, e⟩
            · left; rfl)
          rw [hok']
          clear h51 h2 hok hok'
          generalize hgt : D.ts.getD n default = t at *
          have HGT := Lib.hid hgt
          clear hgt HDT
          obtain ⟨R, hR⟩ : ∃ R, R = if (ttold t j s).parts.any (fun p => !p.told) then { D with ts := D.ts.set n (ttold t j s) } else dflushes (dend { D with ts := D.ts.set n (ttold t j s) } (n + 1)) := ⟨_, rfl⟩
          rw [← hR]
          have HR := Lib.hid hR
          clear hR
          have hkind : rkind t = 2 → s.size = 8 * t.parts[j].cnt := fun e => Classical.byContradiction fun e2 => c2 ⟨hrk2.1 e, e2⟩
          have hlen : (ttold t j s).parts.length = t.parts.length := by simp [ttold]
          have hwk : WOk (dend { D with ts := D.ts.set n (ttold t j s) } (n + 1)) := (HWOK.out.set n (ttold t j s) (by rw [HGT.out]; rfl)).dend (n + 1)
          have HWOK2 := Lib.hid hwk
          have HLEN := Lib.hid hlen
          have HKIND := Lib.hid hkind
          clear hkind hlen hwk hrk2 c2 hcntj hto
          have hne : bt ≠ bg := blk_ne hbt hbg (by decide)
          have hne' : bg ≠ bt := Ne.symm hne
          have hbs : bt < w.heap.size := lt_of_block hbt
          have hgs : bg < w.heap.size := lt_of_block hbg
          obtain ⟨b9, k9', z90, -, -, z93⟩ := hT.out.s.at_ j hj
          rw [hs1'] at z90
          injection z90 with e1 le e2
          clear le
          injection e1 with e1
          injection e1 with e1
          subst e1 e2
          have yg := z93 (.string t.parts[j].got) (by simp only [List.getElem?_map, List.getElem?_eq_getElem hj, Option.map_some]; rfl)
          clear z93
          generalize t.parts[j].cnt = cn at *
          generalize t.parts[j].got = gt at *
          generalize hnp : t.parts.length = np at *
          generalize t.wants.length = nw at *
          generalize hrk : rkind t = rk at *
          have hB : B ≤ lo n := Nat.le_trans H.out.lo0 (lo_le H.out.mono (Nat.zero_le _))
          have hsz : ((w.setCell ⟨bt, j, none⟩ (.bool true)).setCell ⟨bg, j, none⟩ (.string s)).heap.size = w.heap.size := by simp [World.setCell]
          have hr1 := H.out.told n hnl (ttold t j s) (by rw [HGT.out]; exact rkind_told _ _ _) (by rw [HGT.out]; rfl) htold htz
          obtain ⟨W2, hW2⟩ : ∃ W2, W2 = ((w.setCell ⟨bt, j, none⟩ (.bool true)).setCell ⟨bg, j, none⟩ (.string s)).alloc (.cells #[.int .i64 (rk : Nat), .slice (some ⟨b8, 0, none⟩) np k8, .slice (some ⟨bt, 0, none⟩) np ct, .slice (some ⟨bg, 0, none⟩) np cg, .slice A29 nw k29, .int .i64 1] 149) := ⟨_, rfl⟩
          have ka : Keep No ((w.setCell ⟨bt, j, none⟩ (.bool true)).setCell ⟨bg, j, none⟩ (.string s)) W2 := by rw [hW2]; exact (Keep.refl _ _).alloc _
          have hr2 := hr1.no ka
          have hT2 : RTAt X W2 (lo n) (lo (n + 1)) (ttold t j s) (vs n) := htold.keepZ (T := fun _ _ => False) (KeepZ.of ka) (fun _ _ _ => ⟨id, id, id⟩) (fun _ _ => id)
          have hzz : KeepZ (TD X B) w W2 := (htz.mono (TW.td hB)).then ka
          have hb2 : W2.heap[w.heap.size]? = some (.cells #[.int .i64 (rk : Nat), .slice (some ⟨b8, 0, none⟩) np k8, .slice (some ⟨bt, 0, none⟩) np ct, .slice (some ⟨bg, 0, none⟩) np cg, .slice A29 nw k29, .int .i64 1] 149) := by rw [hW2, ← hsz]; exact blk_at _ _ rfl
          have HR2 := Lib.hid hr2
          have HZ2 := Lib.hid hzz
          have HT2 := Lib.hid hT2
          have HW2 := Lib.hid hW2
          have HVT := Lib.hid ht1
          have HEND := Lib.hid (rend_any hr2 n (by simpa using hnl) (by simpa using few))
          have d2 := (blk_cell hb2 2).trans rfl
          have ya := YA (.cells #[.int .i64 (rk : Nat), .slice (some ⟨b8, 0, none⟩) np k8, .slice (some ⟨bt, 0, none⟩) np ct, .slice (some ⟨bg, 0, none⟩) np cg, .slice A29 nw k29, .int .i64 1] 149) _ _ _ y
          have yga := YA (.cells #[.int .i64 (rk : Nat), .slice (some ⟨b8, 0, none⟩) np k8, .slice (some ⟨bt, 0, none⟩) np ct, .slice (some ⟨bg, 0, none⟩) np cg, .slice A29 nw k29, .int .i64 1] 149) _ _ _ yg
          have x4a := YA (.cells #[.int .i64 (rk : Nat), .slice (some ⟨b8, 0, none⟩) np k8, .slice (some ⟨bt, 0, none⟩) np ct, .slice (some ⟨bg, 0, none⟩) np cg, .slice A29 nw k29, .int .i64 1] 149) _ _ _ x4
          have fa : (w.alloc (.cells #[.int .i64 (rk : Nat), .slice (some ⟨b8, 0, none⟩) np k8, .slice (some ⟨bt, 0, none⟩) np ct, .slice (some ⟨bg, 0, none⟩) np cg, .slice A29 nw k29, .int .i64 1] 149)).frozen? ⟨bt, j, none⟩ = false := blk_free (blk_old hbt _) _
          have fb : (w.alloc (.cells #[.int .i64 (rk : Nat), .slice (some ⟨b8, 0, none⟩) np k8, .slice (some ⟨bt, 0, none⟩) np ct, .slice (some ⟨bg, 0, none⟩) np cg, .slice A29 nw k29, .int .i64 1] 149)).frozen? ⟨bg, j, none⟩ = false := blk_free (blk_old hbg _) _
          have fc : w.frozen? ⟨bg, j, none⟩ = false := blk_free hbg _
          have fd : w.frozen? ⟨bt, j, none⟩ = false := blk_free hbt _
          clear YA hT2 hr1 hr2 ka hzz hW2 hT sp ht1 hs1' sf hbt hbg hb2 hnp hB htold htz hsz
          by_cases hk2 : rk = 2
          · have hsz := HKIND.out hk2
            have hne2 : ((s.size : Int) != 8 * (cn : Int)) = false := by
              rw [hsz]; simp
            clear HKIND hsz
            have hrk2 : ((rk : Int) == 2) = true := by rw [hk2]; rfl
            clear hk2 hrk
            go_enter Try.func65, Try.ntmps65
            go_wp2_with fail
            go_loopw [11] (fun kv wr => ∃ i, i ≤ np ∧ kv = .int .i64 (i : Nat) ∧ Hid (((ttold t j s).parts.take i).any (fun p => !p.told) = false) ∧ wr = W2) (fun kv _ => np - (intOf kv).toNat)
            case atStart => exact ⟨0, Nat.zero_le _, rfl, rfl, HW2.out.symm⟩
            case round =>
              obtain ⟨i, hi', rfl, hno, rfl⟩ := hrel
              by_cases hlt : i < np
              · obtain ⟨b5, k5, z0, z1, -, z3⟩ := HT2.out.t.at_ i (by rw [HLEN.out]; exact hlt)
                rw [HVT.out, HLEN.out] at z0
                injection z0 with e1 le e2
                clear le
                injection e1 with e1
                injection e1 with e1
                subst e1 e2
                have hil : i < (ttold t j s).parts.length := by rw [HLEN.out]; exact hlt
                have z4 := z3 (.bool (ttold t j s).parts[i].told) (by simp only [List.getElem?_map, List.getElem?_eq_getElem hil, Option.map_some]; rfl)
                have htk : ((ttold t j s).parts.take (i + 1)).any (fun p => !p.told) = !(ttold t j s).parts[i].told := by
                  rw [List.take_succ_eq_append_getElem hil, List.any_append, hno.out]; simp
                have hall : (ttold t j s).parts[i].told = false → (ttold t j s).parts.any (fun p => !p.told) = true := fun e => List.any_eq_true.2 ⟨_, List.getElem_mem hil, by simp [e]⟩
                have HTK := Lib.hid htk
                have HALL := Lib.hid hall
                clear htk hall z3
                generalize (ttold t j s).parts[i].told = tl at *
                cases tl
                · go_wp2_with fail
                  go_ret
                  have hR := HR.out
                  rw [if_pos (HALL.out trivial)] at hR
                  rw [hR]
                  exact ⟨rfl, HR2.out, HZ2.out⟩
                · go_wp2_with fail
                  exact ⟨⟨i + 1, by omega, by simp, HTK.out, trivial⟩, by simp [intOf]; omega⟩
              · obtain rfl : i = np := by omega
                have hno' := hno.out
                rw [List.take_of_length_le (by rw [HLEN.out]; exact Nat.le_refl _)] at hno'
                have hR := HR.out
                rw [if_neg (by rw [hno']; exact Bool.false_ne_true)] at hR
                have HR3 := Lib.hid hR
                clear hno' hno hR
                go_wp2_with fail
                refine HEND.out.mono ?_
                rintro e w3 ⟨⟨v, rfl⟩, hr3, hk3⟩
                have HFL := Lib.hid (rflushes_any hr3 (by rw [dend_len]; simp only [List.length_set]; exact few) HWOK2.out)
                clear hr3
                go_wp2_with fail
                refine HFL.out.mono ?_
                rintro e w4 ⟨⟨v, rfl⟩, hr4, hk4⟩
                have HR4 := Lib.hid hr4
                clear hr4
                go_wp2_with fail
                go_ret
                exact ⟨rfl, by rw [HR3.out]; exact HR4.out, (HZ2.out.trans hk3).trans hk4⟩
          · have hrk2 : ((rk : Int) == 2) = false := beq_eq_false_iff_ne.2 (by omega)
            clear HKIND hk2 hrk
            go_enter Try.func65, Try.ntmps65
            go_wp2_with fail
            go_loopw [11] (fun kv wr => ∃ i, i ≤ np ∧ kv = .int .i64 (i : Nat) ∧ Hid (((ttold t j s).parts.take i).any (fun p => !p.told) = false) ∧ wr = W2) (fun kv _ => np - (intOf kv).toNat)
            case atStart => exact ⟨0, Nat.zero_le _, rfl, rfl, HW2.out.symm⟩
            case round =>
              obtain ⟨i, hi', rfl, hno, rfl⟩ := hrel
              by_cases hlt : i < np
              · obtain ⟨b5, k5, z0, z1, -, z3⟩ := HT2.out.t.at_ i (by rw [HLEN.out]; exact hlt)
                rw [HVT.out, HLEN.out] at z0
                injection z0 with e1 le e2
                clear le
                injection e1 with e1
                injection e1 with e1
                subst e1 e2
                have hil : i < (ttold t j s).parts.length := by rw [HLEN.out]; exact hlt
                have z4 := z3 (.bool (ttold t j s).parts[i].told) (by simp only [List.getElem?_map, List.getElem?_eq_getElem hil, Option.map_some]; rfl)
                have htk : ((ttold t j s).parts.take (i + 1)).any (fun p => !p.told) = !(ttold t j s).parts[i].told := by
                  rw [List.take_succ_eq_append_getElem hil, List.any_append, hno.out]; simp
                have hall : (ttold t j s).parts[i].told = false → (ttold t j s).parts.any (fun p => !p.told) = true := fun e => List.any_eq_true.2 ⟨_, List.getElem_mem hil, by simp [e]⟩
                have HTK := Lib.hid htk
                have HALL := Lib.hid hall
                clear htk hall z3
                generalize (ttold t j s).parts[i].told = tl at *
                cases tl
                · go_wp2_with fail
                  go_ret
                  have hR := HR.out
                  rw [if_pos (HALL.out trivial)] at hR
                  rw [hR]
                  exact ⟨rfl, HR2.out, HZ2.out⟩
                · go_wp2_with fail
                  exact ⟨⟨i + 1, by omega, by simp, HTK.out, trivial⟩, by simp [intOf]; omega⟩
              · obtain rfl : i = np := by omega
                have hno' := hno.out
                rw [List.take_of_length_le (by rw [HLEN.out]; exact Nat.le_refl _)] at hno'
                have hR := HR.out
                rw [if_neg (by rw [hno']; exact Bool.false_ne_true)] at hR
                have HR3 := Lib.hid hR
                clear hno' hno hR
                go_wp2_with fail
                refine HEND.out.mono ?_
                rintro e w3 ⟨⟨v, rfl⟩, hr3, hk3⟩
                have HFL := Lib.hid (rflushes_any hr3 (by rw [dend_len]; simp only [List.length_set]; exact few) HWOK2.out)
                clear hr3
                go_wp2_with fail
                refine HFL.out.mono ?_
                rintro e w4 ⟨⟨v, rfl⟩, hr4, hk4⟩
                have HR4 := Lib.hid hr4
                clear hr4
                go_wp2_with fail
                go_ret
                exact ⟨rfl, by rw [HR3.out]; exact HR4.out, (HZ2.out.trans hk3).trans hk4⟩
      · rw [hto] at y
        rw [h51 hto]
        clear h51 h2 hok hto htold htz hT sp ht1 hs1' sf hbt hbg hcntj
        generalize (D.ts.getD n default).parts.length = np at *
        generalize (D.ts.getD n default).wants.length = nw at *
        generalize rkind (D.ts.getD n default) = rk at *
        have ya := YA (.cells #[.int .i64 (rk : Nat), .slice A8 np k8, .slice (some ⟨bt, 0, none⟩) np ct, .slice (some ⟨bg, 0, none⟩) np cg, .slice A29 nw k29, .int .i64 1] 149) _ _ _ y
        clear YA
        go_enter Try.func65, Try.ntmps65
        go_wp2_with fail
        go_ret
        exact ⟨rfl, H.out.no ((Keep.refl _ _).alloc _), (KeepZ.refl _ _).alloc _⟩
end
end Go.Proofs.Ytimdaioojnohmaa
