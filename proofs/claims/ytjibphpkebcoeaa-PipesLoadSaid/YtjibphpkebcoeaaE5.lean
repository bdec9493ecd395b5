/- For every list of steps and every list of pipes PipesLoad returns true, and both lists read as before. No condition. -/
import Derived.Test.YtjibphpkebcoeaaE4
import Derived.Test.YtjibphpkebcoeaaR1
set_option linter.all false
namespace Go.Proofs.Ytjibphpkebcoeaa
open Go.ChangeShapes Go.WideShapes Go.ChangeAt Go.RowKit Go.Deep

theorem inp_list {α : Type} {w : World} {B : Nat} {v : Value} {n sz : Nat} {c : Nat → Nat → Value} (f : α → List Value) (g : Nat → α) (h : Inp w B v n sz c) (e : ∀ i, i < n → ∀ j, j < sz → (f (g i))[j]? = some (c i j)) :
    ∃ o : List α, o.length = n ∧ Inp w B v o.length sz (atl f o) := by
  refine ⟨(List.range n).map g, by simp, ?_⟩
  have hl : ((List.range n).map g).length = n := by simp
  rw [hl]
  refine h.congr fun i hi j hj => ?_
  have hx : ((List.range n).map g)[i]? = some (g i) := by simp [hi]
  exact (atl_get hx (e i hi j hj)).symm
theorem pinfos {H : Type} {enc : TypeId × Value → H} {w : World} {spare : Nat → Bool} {held : Bool} {v : Value} {d : DataW H} {p : List MemPlace} (hv : ∃ a len cap, v = .slice a len cap) (h : DataW.Trod enc Try.prog w 0 spare held 66 v d p) :
    ∃ (o : List Ent), Inp w w.heap.size v o.length 2 (atl ec o) := by
  obtain ⟨n, f, hin, hf⟩ := inp_open (P := Try.prog) Try.underlying66 Try.underlying74 (by kernel_rfl) (by kernel_rfl) (by decide) hv h
  have hst : ∀ i, ∃ x : Ent, i < n → f i 0 = .int .i64 x.1 ∧ f i 1 = .string x.2 := by
    intro i
    by_cases hi : i < n
    · obtain ⟨x0, e0, _⟩ := cell_int Try.underlying3 (hf i hi 0 _ rfl)
      obtain ⟨x1, e1, _⟩ := cell_string Try.underlying9 (hf i hi 1 _ rfl)
      exact ⟨(x0, x1), fun _ => ⟨e0, e1⟩⟩
    · exact ⟨(0, ByteArray.empty), fun h => absurd h hi⟩
  obtain ⟨l, hl⟩ := Classical.axiomOfChoice hst
  obtain ⟨o, _, ho⟩ := inp_list ec l hin fun i hi j hj => by
    obtain ⟨e0, e1⟩ := hl i hi
    match j, hj with
    | 0, _ => rw [e0]; rfl
    | 1, _ => rw [e1]; rfl
  exact ⟨o, ho⟩

set_option maxRecDepth 100000 in
theorem pipesLoad_lifted (os : Os) (started : os.Started) (H : Type) (enc : TypeId × Value → H) :
    ReturnsInHanded {} Try.checked os 11 .any (Rows.pipesLoadSpec.pre6 enc Try.prog Try.f11 Rows.pipesLoadRow.domain false) (Rows.pipesLoadSpec.post enc Try.prog Try.f11 false true false false) := by
  refine returnsInHanded_of_change (C := Try.checked) Try.own started (by kernel_rfl) Try.func11
    (ChangeSpec.witness6 (enc := enc) (C := Try.checked) false ⟨#[], #[.slice none 0 0, .slice none 0 0], []⟩ 8 (by kernel_rfl) (by kernel_rfl) (by kernel_rfl) (by kernel_rfl)) ?_
  intro W base args ds gs before hval0 hW _ _
  have hval : ∀ (j : Nat) t v, Try.f11.params[j]? = some t → args[j]? = some v → Value.okWide Try.prog W .any base t v := hval0
  have hW' := hW
  obtain ⟨p, q, hA0, hV, rfl, _, _⟩ := hW
  have hA : DataW.TrodAll enc Try.prog W 0 (fun _ => true) true Try.f11.params.toList args.toList ds p := hA0
  rw [Try.params11] at hA hval
  obtain ⟨v0, vs0, d0, ds0, p0, q0, hargs, rfl, rfl, h0, r0⟩ := trodAll_cons hA
  obtain ⟨v1, vs1, d1, ds1, p1, q1, rfl, rfl, rfl, h1, r1⟩ := trodAll_cons r0
  obtain ⟨rfl, rfl, rfl⟩ := trodAll_nil r1
  obtain rfl : args = #[v0, v1] := by cases args; simp_all
  obtain ⟨rfl, rfl⟩ := trodVars_none hV
  clear hA0 hval0
  have lt0 : ∀ x ∈ p0, x.block < W.heap.size := by obtain ⟨m, hm⟩ := h0; exact DataW.trod_lt m _ _ _ hm
  have k0 := h0
  obtain ⟨n, l, hin⟩ := psteps (okWide_slice Try.underlying22 (hval 0 22 v0 rfl rfl)) h0
  have lt1 : ∀ x ∈ p1, x.block < W.heap.size := by obtain ⟨m, hm⟩ := h1; exact DataW.trod_lt m _ _ _ hm
  have k1 := h1
  obtain ⟨o, hin2⟩ := pinfos (okWide_slice Try.underlying66 (hval 1 66 v1 rfl rfl)) h1
  refine (pipesLoad_any l v0 n o v1 W hin hin2).mono fun e W' ⟨he, bel⟩ => ?_
  subst he
  exact ⟨_, rfl, _, _, _, [], _, [], hW', trodAll_mk1 (shut_bool Try.underlying4 _), (trodAll_cons_mk (Below.trod Try.laidOut (by kernel_rfl) (of_decide_eq_true (by kernel_rfl)) k0 bel lt0) (trodAll_cons_mk (Below.trod Try.laidOut (by kernel_rfl) (of_decide_eq_true (by kernel_rfl)) k1 bel lt1) trodAll_mk0)), rfl, bel.frame _, fun h => by cases h⟩

theorem pipesLoad_holds : Rows.PipesLoadSaid :=
  OpenClaim.holds_of_wide 11 Try.f11 rfl rfl rfl rfl rfl rfl rfl ⟨rfl, rfl, rfl, rfl, rfl⟩ rfl rfl rfl rfl rfl (by kernel_rfl) Try.func11 (by kernel_rfl)
    (of_decide_eq_true (by kernel_rfl)) (by unfold Func.isWrapper; first | (rw [if_pos (by decide +kernel)]; kernel_rfl) | (rw [if_neg (by decide +kernel)]; exact ⟨rfl, rfl⟩))
    (fun os started H enc _ => pipesLoad_lifted os started H enc)
#print axioms pipesLoad_holds
end Go.Proofs.Ytjibphpkebcoeaa
