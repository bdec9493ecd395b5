/- The reference's descriptors: Close, Drop. -/
import Derived.Test.YtidmkdaegglepaaQ6
set_option linter.all false
namespace Go.Proofs.Ytidmkdaegglepaa
open Go.RowKit

set_option maxHeartbeats 3200000 in
set_option maxRecDepth 100000 in
theorem rclose (w : World) (B rb : Nat) (l : List DE) (p s : Int) (h : RT w B rb l) (hl : l.length ≤ 1000) (hB : B ≤ w.heap.size) :
    Calls Try.prog 60 #[.pointer (some ⟨rb, 0, none⟩), .int .i64 p, .int .i64 s] w fun r w' => r = .returned (.int .i64 (clE l p s)) ∧ RT w' B rb (if atB l p s then leftL l p s else l) ∧ Mod (RF w B rb) w w' := by
  have hA := rat w B rb l p s h hl
  rcases hx : look l p s with _ | x
  · have e1 : clE l p s = 6 := by simp [clE, (atB_none hx).1]
    rw [e1, (atB_none hx).1]
    rw [atI_none hx] at hA
    have HA := Lib.hid hA
    clear hA hx e1
    go_enter Try.func60, Try.ntmps60
    go_wp2_with fail
    refine HA.out.mono ?_
    rintro e w1 ⟨rfl, b1⟩
    have h2 := h.quiet b1
    clear h HA
    go_wp2
    go_ret
    exact ⟨rfl, h2, mod_q b1⟩
  · have e1 : clE l p s = 0 := by simp [clE, (atB_some hx).1]
    rw [e1, (atB_some hx).1]
    obtain ⟨j, hj, _⟩ := atI_some hx
    rw [hj] at hA
    have HA := Lib.hid hA
    clear hA hx e1 hj
    go_enter Try.func60, Try.ntmps60
    go_wp2_with fail
    refine HA.out.mono ?_
    rintro e w1 ⟨rfl, b1⟩
    have h2 := h.quiet b1
    clear HA
    go_wp2_with fail
    refine (rleft w1 B rb l p s h2 hl).mono ?_
    rintro e w2 ⟨v', rfl, hown, b2⟩
    have b3 := b1.trans (b2.mono b1.size)
    obtain ⟨_, v, hb, _⟩ := h2.quiet b2
    have kr := hb.cell 0
    have fr := hb.frozen 0
    simp at kr
    have hR := RT.store hb h.low (Nat.le_trans hB b1.size) hown
    have hM : ∀ u, Mod (RF w B rb) w (w2.setCell ⟨rb, 0, none⟩ u) := fun u => (mod_q b3).setCell (.inl (.inl rfl)) u
    have HR := Lib.hid hR
    obtain ⟨a', c', rfl⟩ := len_of_own hown
    clear hR hb hown h2
    go_wp2
    go_ret
    exact ⟨rfl, by simpa using HR.out, hM _⟩
end Go.Proofs.Ytidmkdaegglepaa
