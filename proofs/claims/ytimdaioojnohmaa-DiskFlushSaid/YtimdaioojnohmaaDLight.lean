/-
  keelsonlaw39.light walked.
-/
import Derived.Test.YtimdaioojnohmaaDOpen
import Derived.Test.YtimdaioojnohmaaQMap
namespace Go.Proofs.Ytimdaioojnohmaa
open Go.RowKit Go.Maps

theorem Rd.dop {w : World} {v : Value} {l : List DOp} (h : Rd w v l.length (l.flatMap opcells8)) (i : Nat) (hi : i < l.length) : ∃ b o c, v = .slice (some ⟨b, o, none⟩) l.length c ∧ l.length ≤ c ∧
    w.cell? ⟨b, o + i * 8, none⟩ = some (.int .i64 l[i].kind) ∧ w.cell? ⟨b, o + i * 8 + 1, none⟩ = some (.int .u32 (l[i].frm : Nat)) ∧ w.cell? ⟨b, o + i * 8 + 2, none⟩ = some (.int .u32 (l[i].cnt : Nat)) ∧
    w.cell? ⟨b, o + i * 8 + 3, none⟩ = some (.string l[i].data) ∧ w.cell? ⟨b, o + i * 8 + 4, none⟩ = some (.int .u64 (l[i].task : Nat)) ∧ w.cell? ⟨b, o + i * 8 + 5, none⟩ = some (.int .i64 l[i].part) ∧
    w.cell? ⟨b, o + i * 8 + 6, none⟩ = some (.int .u64 (l[i].now : Nat)) ∧ w.cell? ⟨b, o + i * 8 + 7, none⟩ = some l[i].ch := by
  obtain ⟨A, c, rfl, hc, hx⟩ := h
  have g := fun j (hj : j < 8) => flat_get opcells8 8 opcells8_len l i j hi hj
  obtain ⟨b, o, rfl, h0⟩ := hx _ _ ((g 0 (by decide)).trans rfl)
  have k : ∀ j u, j < 8 → (opcells8 l[i])[j]? = some u → w.cell? ⟨b, o + (i * 8 + j), none⟩ = some u := fun j u hj hu => by
    obtain ⟨b1, o1, e1, h1⟩ := hx _ _ ((g j hj).trans hu)
    cases e1
    exact h1
  exact ⟨b, o, c, rfl, hc, h0, k 1 _ (by decide) rfl, k 2 _ (by decide) rfl, k 3 _ (by decide) rfl, k 4 _ (by decide) rfl, k 5 _ (by decide) rfl, k 6 _ (by decide) rfl, k 7 _ (by decide) rfl⟩
def opLight (x : DOp) : Bool := decide (x.data.size ≤ 3000) && decide (x.chunks.length ≤ 300)
def lightB (n : Nat) (l : List DOp) : Bool := l.all opLight && (decide (l.length ≤ 60) && decide (n ≤ 300))
theorem all_take_succ (l : List DOp) (i : Nat) (h : i < l.length) (h1 : (l.take i).all opLight = true) (h2 : opLight l[i] = true) : (l.take (i + 1)).all opLight = true := by
  rw [List.take_succ_eq_append_getElem h, List.all_append, h1]
  simp [h2]
theorem all_miss (l : List DOp) (i : Nat) (h : i < l.length) (h2 : opLight l[i] = false) (n : Nat) : lightB n l = false := by
  unfold lightB
  have : l.all opLight = false := by
    rw [List.all_eq_false]
    exact ⟨l[i], List.getElem_mem h, by simp [h2]⟩
  rw [this]; rfl
set_option maxRecDepth 100000 in
set_option maxHeartbeats 1000000 in
theorem light_any (A1 : Option Addr) (n1 c1 : Nat) (v : Value) (l : List DOp) (w : World) (h : Rd w v l.length (l.flatMap opcells8)) (hok : ∀ p ∈ l, DOpOk w p) (hl : l.length ≤ maxLen) :
    Calls Try.prog 19 #[.slice A1 n1 c1, v] w fun e w' => e = .returned (.bool (lightB n1 l)) ∧ Keep No w w' := by
  obtain ⟨A, c, rfl, hlc, -⟩ := id h
  have H := Lib.hid h
  have HOK := Lib.hid hok
  unfold maxLen at hl
  clear h hok
  go_enter Try.func19, Try.ntmps19
  go_wp2_with fail
  go_loopw [9] (fun iv wr => ∃ i, i ≤ l.length ∧ iv = .int .i64 (i : Nat) ∧ Hid ((l.take i).all opLight = true) ∧ Keep No w wr) (fun iv _ => l.length - (intOf iv).toNat)
  case atStart => exact ⟨0, Nat.zero_le _, rfl, (show _ = _ from rfl), Keep.refl _ _⟩
  case round =>
    obtain ⟨i, hi, rfl, hall, hk⟩ := hrel
    by_cases hlt : i < l.length
    · obtain ⟨b, o, c', hv, hc', x0, x1, x2, x3, x4, x5, x6, x7⟩ := (H.out.keep hk).dop i hlt
      injection hv with hA _ hcc
      subst hA hcc
      have hopk := HOK.out l[i] (List.getElem_mem hlt)
      have hsucc := all_take_succ l i hlt hall.out
      have hmiss := fun h => all_miss l i hlt h n1
      generalize l[i] = op at *
      obtain ⟨kind, frm, cnt, data, task, part, now, ch, chunks⟩ := op
      obtain ⟨A7, c7, hch, -, -⟩ := hopk.ch
      simp only at hch x0 x1 x2 x3 x4 x5 x6 x7 hsucc hmiss
      subst hch
      by_cases h1 : data.size ≤ 3000
      · by_cases h2 : chunks.length ≤ 300
        · have HE := Lib.hid (hsucc (by unfold opLight; simp [h1, h2]))
          have e1 : decide ((3000 : Int) < (data.size : Int)) = false := by simp; omega
          have e2 : decide ((300 : Int) < (chunks.length : Int)) = false := by simp; omega
          clear hsucc hmiss hopk h1 h2
          go_wp2_with fail
          exact ⟨⟨i + 1, by omega, by simp, HE, hk.alloc _⟩, by simp [intOf]; omega⟩
        · have HE := Lib.hid (hmiss (by unfold opLight; simp [h2]))
          have e1 : decide ((3000 : Int) < (data.size : Int)) = false := by simp; omega
          have e2 : decide ((300 : Int) < (chunks.length : Int)) = true := by simp; omega
          clear hsucc hmiss hopk h1 h2
          go_wp2_with fail
          go_ret
          exact ⟨ret_bool HE.out.symm, hk.alloc _⟩
      · have HE := Lib.hid (hmiss (by unfold opLight; simp [h1]))
        have e1 : decide ((3000 : Int) < (data.size : Int)) = true := by simp; omega
        clear hsucc hmiss hopk h1
        go_wp2_with fail
        go_ret
        exact ⟨ret_bool HE.out.symm, hk.alloc _⟩
    · obtain rfl : i = l.length := by omega
      have hal := hall.out
      rw [List.take_length] at hal
      have HB : Hid (lightB n1 l = (decide (l.length ≤ 60) && decide (n1 ≤ 300))) := by show _ = _; unfold lightB; rw [hal]; rfl
      clear hal hall
      generalize l.length = n at *
      by_cases h1 : n ≤ 60
      · rw [decide_eq_true h1] at HB
        have e1 : decide ((n : Int) ≤ 60) = true := by simp; omega
        by_cases h2 : n1 ≤ 300
        · rw [decide_eq_true h2] at HB
          have e2 : decide ((n1 : Int) ≤ 300) = true := by simp; omega
          clear h1 h2
          go_wp2_with fail
          go_ret
          exact ⟨ret_bool HB.out.symm, hk⟩
        · rw [decide_eq_false h2] at HB
          have e2 : decide ((n1 : Int) ≤ 300) = false := by simp; omega
          clear h1 h2
          go_wp2_with fail
          go_ret
          exact ⟨ret_bool HB.out.symm, hk⟩
      · rw [decide_eq_false h1] at HB
        have e1 : decide ((n : Int) ≤ 60) = false := by simp; omega
        clear h1
        go_wp2_with fail
        go_ret
        exact ⟨ret_bool HB.out.symm, hk⟩
end Go.Proofs.Ytimdaioojnohmaa
