/-
  The law QueueNobody returns true for every input (in a queue that no call made nobody waits), and leaves what was there as it was; no condition.
-/
import Derived.Test.YtimdaioojnohmaaLaw
import Derived.Test.YtimdaioojnohmaaOpen
import Derived.Test.YtimdaioojnohmaaQNobody
namespace Go.Proofs.Ytimdaioojnohmaa.queueNobody
open Go.ChangeShapes Go.WideShapes Go.ChangeAt Go.RowKit


set_option maxRecDepth 100000 in
theorem lifted (os : Os) (started : os.Started) (H : Type) (enc : TypeId × Value → H) :
    ReturnsInHanded {} Try.checked os 11 .any (Rows.queueNobodySpec.pre6 enc Try.prog Try.f11 Rows.queueNobodyRow.domain false) (Rows.queueNobodySpec.post enc Try.prog Try.f11 false true false false) := by
  refine returnsInHanded_of_change (C := Try.checked) Try.own started (by kernel_rfl) Try.func11
    (ChangeSpec.witness6 (enc := enc) (C := Try.checked) false ⟨#[], #[.agg #[.int .i64 0, .int .u64 0, .int .u64 0]], []⟩ 8 (by kernel_rfl) (by kernel_rfl) (by kernel_rfl) (by kernel_rfl)) ?_
  intro W base args ds gs before hval0 hW _ _
  have hval : ∀ (j : Nat) t v, Try.f11.params[j]? = some t → args[j]? = some v → Value.okWide Try.prog W .any base t v := hval0
  have hW' := hW
  obtain ⟨p, q, hA0, hV, rfl, hfz, hnd⟩ := hW
  have hA : DataW.TrodAll enc Try.prog W 0 (fun _ => true) true Try.f11.params.toList args.toList ds p := hA0
  rw [Try.params11] at hA hval
  obtain ⟨v0, vs0, d0, ds0, p0, q0, hargs, rfl, rfl, h0, r0⟩ := trodAll_cons hA
  obtain ⟨rfl, rfl, rfl⟩ := trodAll_nil r0
  obtain rfl : args = #[v0] := by cases args; simp_all
  obtain ⟨rfl, rfl⟩ := trodVars_none hV
  obtain ⟨c0, c1, c2, y0, y1, y2, m, rfl, rfl, rfl, hy0, hy1, hy2⟩ := Go.Joins.open_agg3 Try.underlying93 (by kernel_rfl) (show Try.prog.cellsOf 93 = 3 by kernel_rfl) (hval 0 93 v0 rfl rfl) h0
  obtain ⟨x0, e0, -, -⟩ := DataW.trod_int Try.underlying3 hy0
  obtain ⟨x1, e1, -, wx1⟩ := DataW.trod_int Try.underlying29 hy1
  obtain ⟨x2, e2, -, wx2⟩ := DataW.trod_int Try.underlying29 hy2
  obtain ⟨i1, rfl, -⟩ := wf_u64 wx1
  obtain ⟨i2, rfl, -⟩ := wf_u64 wx2
  obtain rfl : c0 = _ := (List.cons.inj e0).1
  obtain rfl : c1 = _ := (List.cons.inj e1).1
  obtain rfl : c2 = _ := (List.cons.inj e2).1
  clear hA0 hval0
  simp only [List.append_nil] at hW'
  refine (queueNobody_any i1 i2 x0 W).mono fun e W' ⟨he, hg⟩ => ?_
  subst he
  exact ⟨_, rfl, law_post Try.laidOut Try.underlying4 rfl rfl (of_decide_eq_true (by kernel_rfl)) hW' rfl hg⟩

theorem over : Rows.queueNobodyRow.holds Try.pinned (OpenSpec.ofChange Rows.queueNobodySpec) :=
  OpenClaim.holds_of_wide 11 Try.f11 rfl rfl rfl rfl rfl rfl rfl ⟨rfl, rfl, rfl, rfl, rfl⟩ rfl rfl rfl rfl rfl (by kernel_rfl) Try.func11 (by kernel_rfl)
    (of_decide_eq_true (by kernel_rfl)) (by unfold Func.isWrapper; first | (rw [if_pos (by decide +kernel)]; kernel_rfl) | (rw [if_neg (by decide +kernel)]; exact ⟨rfl, rfl⟩))
    (fun os started H enc _ => lifted os started H enc)

/-- The statement. -/
theorem proved : Rows.QueueNobodySaid :=
  over
#print axioms proved
end Go.Proofs.Ytimdaioojnohmaa.queueNobody
