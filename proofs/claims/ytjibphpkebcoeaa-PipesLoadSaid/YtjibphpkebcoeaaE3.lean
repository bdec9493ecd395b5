/- 'PipesLoad' returns true. -/
import Derived.Test.YtjibphpkebcoeaaD3
import Derived.Test.YtjibphpkebcoeaaE1
set_option linter.all false
namespace Go.Proofs.Ytjibphpkebcoeaa
open Go.RowKit

theorem ents_congr {s t : PS} (h : ∀ i, i < 3 → (s i).map (·.2) = (t i).map (·.2)) : ents s = ents t := by
  have key : ∀ i, i < 3 → entAt s i = entAt t i := by
    intro i hi
    have := h i hi
    unfold entAt
    rcases hs : s i with _ | ⟨c, d⟩ <;> rcases ht : t i with _ | ⟨c', d'⟩ <;> simp [hs, ht] at this ⊢
    exact this
  unfold ents
  rw [key 0 (by omega), key 1 (by omega), key 2 (by omega)]
theorem look_ents (s : PS) (i : Nat) (hi : i < 3) : look (ents s) i = (s i).map (·.2) := by
  match i, hi with
  | 0, _ =>
    rcases h0 : s 0 with _ | ⟨c0, d0⟩ <;> rcases h1 : s 1 with _ | ⟨c1, d1⟩ <;> rcases h2 : s 2 with _ | ⟨c2, d2⟩ <;>
    simp [look, ents, entAt, h0, h1, h2]
  | 1, _ =>
    rcases h0 : s 0 with _ | ⟨c0, d0⟩ <;> rcases h1 : s 1 with _ | ⟨c1, d1⟩ <;> rcases h2 : s 2 with _ | ⟨c2, d2⟩ <;>
    simp [look, ents, entAt, h0, h1, h2]
  | 2, _ =>
    rcases h0 : s 0 with _ | ⟨c0, d0⟩ <;> rcases h1 : s 1 with _ | ⟨c1, d1⟩ <;> rcases h2 : s 2 with _ | ⟨c2, d2⟩ <;>
    simp [look, ents, entAt, h0, h1, h2]
theorem ents_right (s : PS) (hz : ∀ y ∈ ents s, y.2.size ≤ 16) : RightP (ents s) := by
  have key : ∀ (i : Nat) (x y : Ent) (k : Nat), (ents s)[k]? = some x → 0 ≤ x.1 ∧ x.1 ≤ 2 ∧ (i < k → (ents s)[i]? = some y → y.1 ≠ x.1) := by
    intro i x y k hx
    have hk := (List.getElem?_eq_some_iff.1 hx).1
    have h3 := ents_len s
    have hk' : k = 0 ∨ k = 1 ∨ k = 2 := by omega
    rcases h0 : s 0 with _ | ⟨c0, d0⟩ <;> rcases h1 : s 1 with _ | ⟨c1, d1⟩ <;> rcases h2 : s 2 with _ | ⟨c2, d2⟩ <;>
    simp [ents, entAt, h0, h1, h2] at hx ⊢ <;>
    rcases hk' with rfl | rfl | rfl <;> simp at hx <;> subst hx <;> simp <;>
    intro hi hy <;> (have hi' : i = 0 ∨ i = 1 := by omega) <;> rcases hi' with rfl | rfl <;> simp at hy <;> (try omega) <;> subst hy <;> simp
  intro k x hx
  obtain ⟨a, b, _⟩ := key 0 x x k hx
  exact ⟨a, b, hz x (List.mem_of_getElem? hx), fun i y hi hy => (key i x y k hx).2.2 hi hy⟩
end Go.Proofs.Ytjibphpkebcoeaa
