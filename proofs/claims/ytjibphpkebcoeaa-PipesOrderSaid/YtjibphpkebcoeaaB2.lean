/- For every list of steps PipesOrder returns true, and the list reads as before. No condition. -/
import Derived.Test.YtjibphpkebcoeaaB1
import Derived.Test.YtjibphpkebcoeaaR0
set_option linter.all false
namespace Go.Proofs.Ytjibphpkebcoeaa
open Go.ChangeShapes Go.WideShapes Go.ChangeAt Go.RowKit Go.Deep

theorem psteps {H : Type} {enc : TypeId × Value → H} {w : World} {spare : Nat → Bool} {held : Bool} {v : Value} {d : DataW H} {p : List MemPlace} (hv : ∃ a len cap, v = .slice a len cap) (h : DataW.Trod enc Try.prog w 0 spare held 22 v d p) :
    ∃ (n : Nat) (l : Nat → PStep), Inp w w.heap.size v n 4 (stepCells l) := by
  obtain ⟨n, f, hin, hf⟩ := inp_open (P := Try.prog) Try.underlying22 Try.underlying31 (by kernel_rfl) (by kernel_rfl) (by decide) hv h
  have hst : ∀ i, ∃ st : PStep, i < n → f i 0 = .int .i64 st.what ∧ f i 1 = .int .i64 st.id ∧ f i 2 = .int .i64 st.n ∧ f i 3 = .string st.s := by
    intro i
    by_cases hi : i < n
    · obtain ⟨x0, e0, _⟩ := cell_int Try.underlying3 (hf i hi 0 _ rfl)
      obtain ⟨x1, e1, _⟩ := cell_int Try.underlying3 (hf i hi 1 _ rfl)
      obtain ⟨x2, e2, _⟩ := cell_int Try.underlying3 (hf i hi 2 _ rfl)
      obtain ⟨x3, e3, _⟩ := cell_string Try.underlying9 (hf i hi 3 _ rfl)
      exact ⟨⟨x0, x1, x2, x3⟩, fun _ => ⟨e0, e1, e2, e3⟩⟩
    · exact ⟨⟨0, 0, 0, ByteArray.empty⟩, fun h => absurd h hi⟩
  obtain ⟨l, hl⟩ := Classical.axiomOfChoice hst
  refine ⟨n, l, hin.congr fun i hi j hj => ?_⟩
  obtain ⟨e0, e1, e2, e3⟩ := hl i hi
  match j, hj with
  | 0, _ => exact e0
  | 1, _ => exact e1
  | 2, _ => exact e2
  | 3, _ => exact e3

set_option maxRecDepth 100000 in
theorem pipesOrder_lifted (os : Os) (started : os.Started) (H : Type) (enc : TypeId × Value → H) :
    ReturnsInHanded {} Try.checked os 3 .any (Rows.pipesOrderSpec.pre6 enc Try.prog Try.f3 Rows.pipesOrderRow.domain false) (Rows.pipesOrderSpec.post enc Try.prog Try.f3 false true false false) := by
  refine returnsInHanded_of_change (C := Try.checked) Try.own started (by kernel_rfl) Try.func3
    (ChangeSpec.witness6 (enc := enc) (C := Try.checked) false ⟨#[], #[.slice none 0 0], []⟩ 8 (by kernel_rfl) (by kernel_rfl) (by kernel_rfl) (by kernel_rfl)) ?_
  intro W base args ds gs before hval0 hW _ _
  have hval : ∀ (j : Nat) t v, Try.f3.params[j]? = some t → args[j]? = some v → Value.okWide Try.prog W .any base t v := hval0
  have hW' := hW
  obtain ⟨p, q, hA0, hV, rfl, _, _⟩ := hW
  have hA : DataW.TrodAll enc Try.prog W 0 (fun _ => true) true Try.f3.params.toList args.toList ds p := hA0
  rw [Try.params3] at hA hval
  obtain ⟨v0, d0, rfl, rfl, h0⟩ := trodAll_one hA
  obtain ⟨rfl, rfl⟩ := trodVars_none hV
  clear hA0 hval0
  have lt0 : ∀ x ∈ p, x.block < W.heap.size := by obtain ⟨m, hm⟩ := h0; exact DataW.trod_lt m _ _ _ hm
  obtain ⟨n, l, hin⟩ := psteps (okWide_slice Try.underlying22 (hval 0 22 v0 rfl rfl)) h0
  refine (pipesOrder_any l v0 n W hin).mono fun e W' ⟨he, bel⟩ => ?_
  subst he
  exact ⟨_, rfl, _, _, _, [], _, [], hW', trodAll_mk1 (shut_bool Try.underlying4 _), trodAll_mk1 (Below.trod Try.laidOut (by kernel_rfl) (of_decide_eq_true (by kernel_rfl)) h0 bel lt0), rfl, bel.frame _, fun h => by cases h⟩

theorem pipesOrder_holds : Rows.PipesOrderSaid :=
  OpenClaim.holds_of_wide 3 Try.f3 rfl rfl rfl rfl rfl rfl rfl ⟨rfl, rfl, rfl, rfl, rfl⟩ rfl rfl rfl rfl rfl (by kernel_rfl) Try.func3 (by kernel_rfl)
    (of_decide_eq_true (by kernel_rfl)) (by unfold Func.isWrapper; first | (rw [if_pos (by decide +kernel)]; kernel_rfl) | (rw [if_neg (by decide +kernel)]; exact ⟨rfl, rfl⟩))
    (fun os started H enc _ => pipesOrder_lifted os started H enc)
#print axioms pipesOrder_holds
end Go.Proofs.Ytjibphpkebcoeaa
