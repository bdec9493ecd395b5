/- Lists of steps and of descriptors that come in. -/
import Derived.Test.YtidmkdaegglepaaS9
import Derived.Test.YtidmkdaegglepaaR0
import Derived.Test.YtidmkdaegglepaaR1
import Derived.Lib.SmallJoins
set_option linter.all false
namespace Go.Proofs.Ytidmkdaegglepaa
open Go.ChangeShapes Go.WideShapes Go.ChangeAt Go.RowKit Go.Deep

theorem list_of {α : Type} (n : Nat) (l : Nat → α) : ∃ xs : List α, xs.length = n ∧ ∀ i, i < n → xs[i]? = some (l i) :=
  ⟨(List.range n).map l, by simp, fun i hi => by simp [hi]⟩
theorem bsteps {H : Type} {enc : TypeId × Value → H} {w : World} {spare : Nat → Bool} {held : Bool} {v : Value} {d : DataW H} {p : List MemPlace} (hv : ∃ a len cap, v = .slice a len cap) (h : DataW.Trod enc Try.prog w 0 spare held 29 v d p) :
    ∃ l : List ST, Inp w w.heap.size v l.length 6 (atl sc l) := by
  obtain ⟨n, f, hin, hf⟩ := inp_open (P := Try.prog) Try.underlying29 Try.underlying37 (by kernel_rfl) (by kernel_rfl) (by decide) hv h
  have hst : ∀ i, ∃ st : ST, i < n → f i 0 = .int .i64 st.what ∧ f i 1 = .int .i64 st.pid ∧ f i 2 = .int .i64 st.slot ∧ f i 3 = .int .i64 st.kind ∧ f i 4 = .int .i64 st.obj ∧ f i 5 = .int .i64 st.n := by
    intro i
    by_cases hi : i < n
    · obtain ⟨x0, e0, _⟩ := cell_int Try.underlying3 (hf i hi 0 _ rfl)
      obtain ⟨x1, e1, _⟩ := cell_int Try.underlying3 (hf i hi 1 _ rfl)
      obtain ⟨x2, e2, _⟩ := cell_int Try.underlying3 (hf i hi 2 _ rfl)
      obtain ⟨x3, e3, _⟩ := cell_int Try.underlying3 (hf i hi 3 _ rfl)
      obtain ⟨x4, e4, _⟩ := cell_int Try.underlying3 (hf i hi 4 _ rfl)
      obtain ⟨x5, e5, _⟩ := cell_int Try.underlying3 (hf i hi 5 _ rfl)
      exact ⟨⟨x0, x1, x2, x3, x4, x5⟩, fun _ => ⟨e0, e1, e2, e3, e4, e5⟩⟩
    · exact ⟨⟨0, 0, 0, 0, 0, 0⟩, fun h => absurd h hi⟩
  obtain ⟨l, hl⟩ := Classical.axiomOfChoice hst
  obtain ⟨xs, hx, hxs⟩ := list_of n l
  subst hx
  refine ⟨xs, hin.congr fun i hi j hj => ?_⟩
  obtain ⟨e0, e1, e2, e3, e4, e5⟩ := hl i hi
  match j, hj with
  | 0, _ => rw [atl_get (hxs i hi) rfl]; exact e0
  | 1, _ => rw [atl_get (hxs i hi) rfl]; exact e1
  | 2, _ => rw [atl_get (hxs i hi) rfl]; exact e2
  | 3, _ => rw [atl_get (hxs i hi) rfl]; exact e3
  | 4, _ => rw [atl_get (hxs i hi) rfl]; exact e4
  | 5, _ => rw [atl_get (hxs i hi) rfl]; exact e5
theorem bentries {H : Type} {enc : TypeId × Value → H} {w : World} {spare : Nat → Bool} {held : Bool} {v : Value} {d : DataW H} {p : List MemPlace} (hv : ∃ a len cap, v = .slice a len cap) (h : DataW.Trod enc Try.prog w 0 spare held 40 v d p) :
    ∃ l : List DE, Inp w w.heap.size v l.length 5 (atl dc l) := by
  obtain ⟨n, f, hin, hf⟩ := inp_open (P := Try.prog) Try.underlying40 Try.underlying23 (by kernel_rfl) (by kernel_rfl) (by decide) hv h
  have hst : ∀ i, ∃ st : DE, i < n → f i 0 = .int .i64 st.pid ∧ f i 1 = .int .i64 st.slot ∧ f i 2 = .int .i64 st.kind ∧ f i 3 = .int .i64 st.obj ∧ f i 4 = .int .i64 st.off := by
    intro i
    by_cases hi : i < n
    · obtain ⟨x0, e0, _⟩ := cell_int Try.underlying3 (hf i hi 0 _ rfl)
      obtain ⟨x1, e1, _⟩ := cell_int Try.underlying3 (hf i hi 1 _ rfl)
      obtain ⟨x2, e2, _⟩ := cell_int Try.underlying3 (hf i hi 2 _ rfl)
      obtain ⟨x3, e3, _⟩ := cell_int Try.underlying3 (hf i hi 3 _ rfl)
      obtain ⟨x4, e4, _⟩ := cell_int Try.underlying3 (hf i hi 4 _ rfl)
      exact ⟨⟨x0, x1, x2, x3, x4⟩, fun _ => ⟨e0, e1, e2, e3, e4⟩⟩
    · exact ⟨⟨0, 0, 0, 0, 0⟩, fun h => absurd h hi⟩
  obtain ⟨l, hl⟩ := Classical.axiomOfChoice hst
  obtain ⟨xs, hx, hxs⟩ := list_of n l
  subst hx
  refine ⟨xs, hin.congr fun i hi j hj => ?_⟩
  obtain ⟨e0, e1, e2, e3, e4⟩ := hl i hi
  match j, hj with
  | 0, _ => rw [atl_get (hxs i hi) rfl]; exact e0
  | 1, _ => rw [atl_get (hxs i hi) rfl]; exact e1
  | 2, _ => rw [atl_get (hxs i hi) rfl]; exact e2
  | 3, _ => rw [atl_get (hxs i hi) rfl]; exact e3
  | 4, _ => rw [atl_get (hxs i hi) rfl]; exact e4
end Go.Proofs.Ytidmkdaegglepaa
