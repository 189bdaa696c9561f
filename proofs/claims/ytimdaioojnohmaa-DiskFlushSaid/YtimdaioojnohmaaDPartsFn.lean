/-
  slices.ContainsFunc at a task's parts walked.
-/
import Derived.Test.YtimdaioojnohmaaDMem
namespace Go.Proofs.Ytimdaioojnohmaa
open Go.RowKit

theorem untold_any (p : DPart) (w : World) : Calls Try.prog 76 #[.agg #[.int .u64 (p.task : Nat), .int .i64 (p.ix : Nat), .int .u64 (p.chunk : Nat), .int .u32 (p.frm : Nat), .int .u32 (p.cnt : Nat), .bool p.write, .string p.data, .bool p.told, .string p.got]] w fun e w' => e = .returned (.bool (!p.told)) ∧ Keep No w w' := by
  go_enter Try.func76, Try.ntmps76
  go_wp2_with fail
  go_ret
  exact ⟨rfl, (Keep.refl _ _).alloc _⟩
/-- Parts in memory. -/
def D145 (w : World) (v : Value) (l : List DPart) : Prop := Sl w v l.length (l.flatMap dcells)
theorem D145.at_ {w : World} {v : Value} {l : List DPart} (h : D145 w v l) (i : Nat) (hi : i < l.length) : ∃ b o c, v = .slice (some ⟨b, o, none⟩) l.length c ∧ l.length ≤ c ∧
    w.cell? ⟨b, o + i * 9, none⟩ = some (.int .u64 (l[i].task : Nat)) ∧ w.cell? ⟨b, o + i * 9 + 1, none⟩ = some (.int .i64 (l[i].ix : Nat)) ∧ w.cell? ⟨b, o + i * 9 + 2, none⟩ = some (.int .u64 (l[i].chunk : Nat)) ∧
    w.cell? ⟨b, o + i * 9 + 3, none⟩ = some (.int .u32 (l[i].frm : Nat)) ∧ w.cell? ⟨b, o + i * 9 + 4, none⟩ = some (.int .u32 (l[i].cnt : Nat)) ∧ w.cell? ⟨b, o + i * 9 + 5, none⟩ = some (.bool l[i].write) ∧
    w.cell? ⟨b, o + i * 9 + 6, none⟩ = some (.string l[i].data) ∧ w.cell? ⟨b, o + i * 9 + 7, none⟩ = some (.bool l[i].told) ∧ w.cell? ⟨b, o + i * 9 + 8, none⟩ = some (.string l[i].got) := by
  obtain ⟨b, o, c, rfl, hc, hx⟩ := Sl.some h (by omega)
  have g := fun j (hj : j < 9) => flat_get dcells 9 dcells_len l i j hi hj
  exact ⟨b, o, c, rfl, hc, hx _ _ ((g 0 (by decide)).trans rfl), hx _ _ ((g 1 (by decide)).trans rfl), hx _ _ ((g 2 (by decide)).trans rfl), hx _ _ ((g 3 (by decide)).trans rfl), hx _ _ ((g 4 (by decide)).trans rfl),
    hx _ _ ((g 5 (by decide)).trans rfl), hx _ _ ((g 6 (by decide)).trans rfl), hx _ _ ((g 7 (by decide)).trans rfl), hx _ _ ((g 8 (by decide)).trans rfl)⟩
theorem D145.keep {w w' : World} {v : Value} {l : List DPart} (h : D145 w v l) (hk : Keep No w w') : D145 w' v l := Sl.keep h hk (fun _ _ h => h)
set_option maxRecDepth 100000 in
theorem indexp_any (v : Value) (l : List DPart) (w : World) (h : D145 w v l) (hl : l.length ≤ 1048576) : Calls Try.prog 94 #[v, .func (.func 76) #[] #[]] w fun e w' =>
    (∃ r : Int, e = .returned (.int .i64 r) ∧ (0 ≤ r ↔ l.any (fun p => !p.told) = true)) ∧ Keep No w w' := by
  obtain ⟨A, c, rfl, -⟩ := Sl.shape h
  have H := Lib.hid h
  clear h
  go_enter Try.func94, Try.ntmps94
  go_wp2_with fail
  go_loopw [8] (fun iv wr => ∃ i, i ≤ l.length ∧ iv = .int .i64 (i : Nat) ∧ Hid ((l.take i).any (fun p => !p.told) = false) ∧ Keep No w wr) (fun iv _ => l.length - (intOf iv).toNat)
  case atStart => exact ⟨0, Nat.zero_le _, rfl, rfl, Keep.refl _ _⟩
  case round =>
    obtain ⟨i, hi, rfl, hno, hk⟩ := hrel
    by_cases hlt : i < l.length
    · obtain ⟨b, o, c', hv, hc', x0, x1, x2, x3, x4, x5, x6, x7, x8⟩ := (H.out.keep hk).at_ i hlt
      injection hv with hA _ hcc
      subst hA hcc
      have HC := Lib.hid (untold_any l[i] wr)
      have hmiss : l[i].told = true → Hid ((l.take (i + 1)).any (fun p => !p.told) = false) := fun e => by
        show _ = _
        rw [List.take_succ_eq_append_getElem hlt, List.any_append, hno.out]
        simp [e]
      have hhit : l[i].told = false → Hid (l.any (fun p => !p.told) = true) := fun e => by
        show _ = _
        exact List.any_eq_true.2 ⟨l[i], List.getElem_mem hlt, by simp [e]⟩
      generalize l[i] = p at *
      obtain ⟨q0, q1, q2, q3, q4, q5, q6, q7, q8⟩ := p
      simp only at x0 x1 x2 x3 x4 x5 x6 x7 x8 HC hmiss hhit
      cases q7
      · have HE := hhit rfl
        clear hhit hmiss
        go_wp2_with fail
        refine HC.out.mono ?_
        rintro e w2 ⟨rfl, k2⟩
        go_wp2_with fail
        go_ret
        exact ⟨⟨i, rfl, by simp [HE.out]⟩, hk.trans k2⟩
      · have HE := hmiss rfl
        clear hhit hmiss
        go_wp2_with fail
        refine HC.out.mono ?_
        rintro e w2 ⟨rfl, k2⟩
        go_wp2_with fail
        exact ⟨⟨i + 1, by omega, by simp, HE, hk.trans k2⟩, by simp [intOf]; omega⟩
    · go_wp2_with fail
      go_ret
      refine ⟨⟨-1, rfl, ?_⟩, hk⟩
      have := hno.out
      rw [List.take_of_length_le (by omega)] at this
      simp [this]
theorem containsp_any (v : Value) (l : List DPart) (w : World) (h : D145 w v l) (hl : l.length ≤ 1048576) : Calls Try.prog 75 #[v, .func (.func 76) #[] #[]] w fun e w' =>
    e = .returned (.bool (l.any (fun p => !p.told))) ∧ Keep No w w' := by
  have hc := indexp_any v l w h hl
  clear h
  go_enter Try.func75, Try.ntmps75
  go_wp2_with fail
  refine hc.mono ?_
  rintro e w' ⟨⟨r, rfl, hr⟩, hk⟩
  have HR := Lib.hid hr
  clear hr
  go_wp2_with fail
  go_ret
  refine ⟨ret_bool ?_, hk⟩
  rw [Bool.eq_iff_iff, decide_eq_true_eq]
  exact HR.out
end Go.Proofs.Ytimdaioojnohmaa
