/- For every step OpensNil returns true, and the step reads as before. No condition. -/
import Derived.Test.YtidmkdaegglepaaL1
import Derived.Test.YtidmkdaegglepaaR1
set_option linter.all false
namespace Go.Proofs.Ytidmkdaegglepaa
open Go.ChangeShapes Go.WideShapes Go.ChangeAt Go.RowKit Go.Deep

set_option maxRecDepth 100000 in
theorem opensNil_lifted (os : Os) (started : os.Started) (H : Type) (enc : TypeId × Value → H) :
    ReturnsInHanded {} Try.checked os 12 .any (Rows.opensNilSpec.pre6 enc Try.prog Try.f12 Rows.opensNilRow.domain false) (Rows.opensNilSpec.post enc Try.prog Try.f12 false true false false) := by
  refine returnsInHanded_of_change (C := Try.checked) Try.own started (by kernel_rfl) Try.func12
    (ChangeSpec.witness6 (enc := enc) (C := Try.checked) false ⟨#[], #[.agg #[.int .i64 0, .int .i64 0, .int .i64 0, .int .i64 0, .int .i64 0, .int .i64 0]], []⟩ 8 (by kernel_rfl) (by kernel_rfl) (by kernel_rfl) (by kernel_rfl)) ?_
  intro W base args ds gs before hval0 hW _ _
  have hval : ∀ (j : Nat) t v, Try.f12.params[j]? = some t → args[j]? = some v → Value.okWide Try.prog W .any base t v := hval0
  have hW' := hW
  obtain ⟨p, q, hA0, hV, rfl, _, _⟩ := hW
  have hA : DataW.TrodAll enc Try.prog W 0 (fun _ => true) true Try.f12.params.toList args.toList ds p := hA0
  rw [Try.params12] at hA hval
  obtain ⟨v0, vs0, d0, ds0, p0, q0, hargs, rfl, rfl, h0, r0⟩ := trodAll_cons hA
  obtain ⟨rfl, rfl, rfl⟩ := trodAll_nil r0
  obtain rfl : args = #[v0] := by cases args; simp_all
  obtain ⟨rfl, rfl⟩ := trodVars_none hV
  clear hA0 hval0
  have lt0 : ∀ x ∈ p0, x.block < W.heap.size := by obtain ⟨m, hm⟩ := h0; exact DataW.trod_lt m _ _ _ hm
  have k0 := h0
  obtain ⟨cs0, rfl, hsz0, hcs0⟩ := agg_open Try.underlying67 (by kernel_rfl) (by kernel_rfl) (hval 0 67 v0 rfl rfl) h0
  obtain ⟨c0_0, m0_0, y0_0, e0_0, r0_0⟩ := hcs0 0 _ rfl
  obtain ⟨x0_0, rfl, wf0_0⟩ := cell_int Try.underlying3 ⟨_, _, r0_0⟩
  obtain ⟨c0_1, m0_1, y0_1, e0_1, r0_1⟩ := hcs0 1 _ rfl
  obtain ⟨x0_1, rfl, wf0_1⟩ := cell_int Try.underlying3 ⟨_, _, r0_1⟩
  obtain ⟨c0_2, m0_2, y0_2, e0_2, r0_2⟩ := hcs0 2 _ rfl
  obtain ⟨x0_2, rfl, wf0_2⟩ := cell_int Try.underlying3 ⟨_, _, r0_2⟩
  obtain ⟨c0_3, m0_3, y0_3, e0_3, r0_3⟩ := hcs0 3 _ rfl
  obtain ⟨x0_3, rfl, wf0_3⟩ := cell_int Try.underlying3 ⟨_, _, r0_3⟩
  obtain ⟨c0_4, m0_4, y0_4, e0_4, r0_4⟩ := hcs0 4 _ rfl
  obtain ⟨x0_4, rfl, wf0_4⟩ := cell_int Try.underlying3 ⟨_, _, r0_4⟩
  obtain ⟨c0_5, m0_5, y0_5, e0_5, r0_5⟩ := hcs0 5 _ rfl
  obtain ⟨x0_5, rfl, wf0_5⟩ := cell_int Try.underlying3 ⟨_, _, r0_5⟩
  have ecs0 : cs0 = #[.int .i64 x0_0, .int .i64 x0_1, .int .i64 x0_2, .int .i64 x0_3, .int .i64 x0_4, .int .i64 x0_5] := by
    apply Array.ext_getElem?
    intro i
    match i with
    | 0 => exact e0_0
    | 1 => exact e0_1
    | 2 => exact e0_2
    | 3 => exact e0_3
    | 4 => exact e0_4
    | 5 => exact e0_5
    | k + 6 => rw [Array.getElem?_eq_none (by rw [hsz0]; show 6 ≤ k + 6; omega), Array.getElem?_eq_none (by show 6 ≤ k + 6; omega)]
  subst ecs0
  refine (opensNil_any x0_0 x0_1 x0_2 x0_3 x0_4 x0_5 W).mono fun e W' ⟨he, bel⟩ => ?_
  subst he
  exact ⟨_, rfl, _, _, _, [], _, [], hW', trodAll_mk1 (shut_bool Try.underlying4 _), (trodAll_cons_mk (Below.trod Try.laidOut (by kernel_rfl) (of_decide_eq_true (by kernel_rfl)) k0 bel lt0) trodAll_mk0), rfl, bel.frame _, fun h => by cases h⟩

theorem opensNil_holds : Rows.OpensNilSaid :=
  OpenClaim.holds_of_wide 12 Try.f12 rfl rfl rfl rfl rfl rfl rfl ⟨rfl, rfl, rfl, rfl, rfl⟩ rfl rfl rfl rfl rfl (by kernel_rfl) Try.func12 (by kernel_rfl)
    (of_decide_eq_true (by kernel_rfl)) (by unfold Func.isWrapper; first | (rw [if_pos (by decide +kernel)]; kernel_rfl) | (rw [if_neg (by decide +kernel)]; exact ⟨rfl, rfl⟩))
    (fun os started H enc _ => opensNil_lifted os started H enc)
#print axioms opensNil_holds
end Go.Proofs.Ytidmkdaegglepaa
