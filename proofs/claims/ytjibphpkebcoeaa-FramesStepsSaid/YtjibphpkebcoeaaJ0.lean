/- A list of steps that comes in (frames). -/
import Derived.Test.YtjibphpkebcoeaaH4
import Derived.Test.YtjibphpkebcoeaaR0
import Derived.Lib.SmallJoins
set_option linter.all false
namespace Go.Proofs.Ytjibphpkebcoeaa
open Go.ChangeShapes Go.WideShapes Go.ChangeAt Go.RowKit Go.Deep
theorem byte_of {x : Int} (h : (Lit.int .u8 x).wf = true) : x = ((UInt8.ofNat x.toNat).toNat : Int) := by
  have h2 : 0 ≤ x ∧ x < 256 := by
    simp [Lit.wf] at h
    have h1 : IntKind.u8.min = 0 := by decide
    have h2 : IntKind.u8.max = 255 := by decide
    omega
  simp
  omega
theorem fsteps {H : Type} {enc : TypeId × Value → H} {w : World} {spare : Nat → Bool} {held : Bool} {v : Value} {d : DataW H} {p : List MemPlace} (hv : ∃ a len cap, v = .slice a len cap) (h : DataW.Trod enc Try.prog w 0 spare held 41 v d p) :
    ∃ (n : Nat) (l : Nat → FSt), Inp w w.heap.size v n 6 (fsc l) := by
  obtain ⟨n, f, hin, hf⟩ := inp_open (P := Try.prog) Try.underlying41 Try.underlying46 (by kernel_rfl) (by kernel_rfl) (by decide) hv h
  have hst : ∀ i, ∃ st : FSt, i < n → f i 0 = .int .i64 st.what ∧ f i 1 = .int .i64 st.a ∧ f i 2 = .int .i64 st.b ∧ f i 3 = .int .i64 st.at_ ∧ f i 4 = .int .u8 (st.y.toNat : Int) ∧ f i 5 = .string st.s := by
    intro i
    by_cases hi : i < n
    · obtain ⟨x0, e0, _⟩ := cell_int Try.underlying3 (hf i hi 0 _ rfl)
      obtain ⟨x1, e1, _⟩ := cell_int Try.underlying3 (hf i hi 1 _ rfl)
      obtain ⟨x2, e2, _⟩ := cell_int Try.underlying3 (hf i hi 2 _ rfl)
      obtain ⟨x3, e3, _⟩ := cell_int Try.underlying3 (hf i hi 3 _ rfl)
      obtain ⟨x4, e4, h4⟩ := cell_int Try.underlying5 (hf i hi 4 _ rfl)
      obtain ⟨x5, e5, _⟩ := cell_string Try.underlying9 (hf i hi 5 _ rfl)
      exact ⟨⟨x0, x1, x2, x3, UInt8.ofNat x4.toNat, x5⟩, fun _ => ⟨e0, e1, e2, e3, by rw [e4]; exact congrArg _ (byte_of h4), e5⟩⟩
    · exact ⟨⟨0, 0, 0, 0, 0, ByteArray.empty⟩, fun h => absurd h hi⟩
  obtain ⟨l, hl⟩ := Classical.axiomOfChoice hst
  refine ⟨n, l, hin.congr fun i hi j hj => ?_⟩
  obtain ⟨e0, e1, e2, e3, e4, e5⟩ := hl i hi
  match j, hj with
  | 0, _ => exact e0
  | 1, _ => exact e1
  | 2, _ => exact e2
  | 3, _ => exact e3
  | 4, _ => exact e4
  | 5, _ => exact e5
end Go.Proofs.Ytjibphpkebcoeaa
