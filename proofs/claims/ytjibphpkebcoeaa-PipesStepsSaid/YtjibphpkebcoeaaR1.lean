/- A list of steps that comes in (pipes). -/
import Derived.Test.YtjibphpkebcoeaaA4
import Derived.Test.YtjibphpkebcoeaaR0
import Derived.Lib.SmallJoins
set_option linter.all false
namespace Go.Proofs.Ytjibphpkebcoeaa
open Go.ChangeShapes Go.WideShapes Go.ChangeAt Go.RowKit Go.Deep
theorem psteps {H : Type} {enc : TypeId × Value → H} {w : World} {spare : Nat → Bool} {held : Bool} {v : Value} {d : DataW H} {p : List MemPlace} (hv : ∃ a len cap, v = .slice a len cap) (h : DataW.Trod enc Try.prog w 0 spare held 22 v d p) :
    ∃ (n : Nat) (l : Nat → PStep), Inp w w.heap.size v n 4 (stepCells l) := by
  obtain ⟨n, f, hin, hf⟩ := inp_open (P := Try.prog) Try.underlying22 Try.underlying31 (by kernel_rfl) (by kernel_rfl) (by decide) hv h
  have hst : ∀ i, ∃ st : PStep, i < n → f i 0 = .int .i64 st.what ∧ f i 1 = .int .i64 st.id ∧ f i 2 = .int .i64 st.n ∧ f i 3 = .string st.s := by
    intro i
    by_cases hi : i < n
    · obtain ⟨x0, e0, _⟩ := cell_int Try.underlying3 (hf i hi 0 _ rfl)
      obtain ⟨x1, e1, _⟩ := cell_int Try.underlying3 (hf i hi 1 _ rfl)
      obtain ⟨x2, e2, _⟩ := cell_int Try.underlying3 (hf i hi 2 _ rfl)
      obtain ⟨x3, e3, _⟩ := cell_string Try.underlying9 (hf i hi 3 _ rfl)
      exact ⟨⟨x0, x1, x2, x3⟩, fun _ => ⟨e0, e1, e2, e3⟩⟩
    · exact ⟨⟨0, 0, 0, ByteArray.empty⟩, fun h => absurd h hi⟩
  obtain ⟨l, hl⟩ := Classical.axiomOfChoice hst
  refine ⟨n, l, hin.congr fun i hi j hj => ?_⟩
  obtain ⟨e0, e1, e2, e3⟩ := hl i hi
  match j, hj with
  | 0, _ => exact e0
  | 1, _ => exact e1
  | 2, _ => exact e2
  | 3, _ => exact e3

end Go.Proofs.Ytjibphpkebcoeaa
