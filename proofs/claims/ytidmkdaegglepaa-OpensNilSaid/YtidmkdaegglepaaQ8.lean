/- The reference's descriptors: Drop. -/
import Derived.Test.YtidmkdaegglepaaQ7
set_option linter.all false
namespace Go.Proofs.Ytidmkdaegglepaa
open Go.RowKit

set_option maxHeartbeats 3200000 in
set_option maxRecDepth 100000 in
theorem rdrop (w : World) (B rb : Nat) (l : List DE) (p : Int) (h : RT w B rb l) (hl : l.length ≤ 1000) (hB : B ≤ w.heap.size) :
    Calls Try.prog 62 #[.pointer (some ⟨rb, 0, none⟩), .int .i64 p] w fun r w' => r = .returned (.int .i64 ((l.length : Int) - ((leftL l p (-1)).length : Int))) ∧ RT w' B rb (leftL l p (-1)) ∧ Mod (RF w B rb) w w' := by
  have hll := left_len l p (-1)
  have hL := rleft w B rb l p (-1) h hl
  generalize leftL l p (-1) = u at *
  go_enter Try.func62, Try.ntmps62
  go_wp2_with fail
  refine hL.mono ?_
  rintro e w2 ⟨v', rfl, hown, b2⟩
  obtain ⟨_, v, hb, hv⟩ := h.quiet b2
  have kr := hb.cell 0
  have fr := hb.frozen 0
  simp at kr
  have hR := RT.store hb h.low hB hown
  have hM : ∀ u, Mod (RF w B rb) w (w2.setCell ⟨rb, 0, none⟩ u) := fun u => (mod_q b2).setCell (.inl (.inl rfl)) u
  have HR := Lib.hid hR
  obtain ⟨a', c', rfl⟩ := len_of_own hown
  obtain ⟨a2, c2, rfl⟩ := len_of_own hv
  clear hR hb hown hv h hL
  go_wp2
  go_ret
  exact ⟨rfl, HR.out, hM _⟩
end Go.Proofs.Ytidmkdaegglepaa
