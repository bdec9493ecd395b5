/- 'same' of equal lists. -/
import Derived.Test.YtjibphpkebcoeaaD1
import Derived.Deep.QuietTactic
import Derived.BigQuiet
set_option linter.all false
namespace Go.Proofs.Ytjibphpkebcoeaa
open Go.RowKit

set_option maxHeartbeats 1600000 in
set_option maxRecDepth 100000 in
theorem same_eq (l : List Ent) (v1 v2 : Value) (w : World) (h1 : Inp w w.heap.size v1 l.length 2 (atl ec l)) (h2 : Inp w w.heap.size v2 l.length 2 (atl ec l)) (hl : l.length ≤ 1000) :
    Calls Try.prog 33 #[v1, v2] w fun e w' => e = .returned (.bool true) ∧ Below w.heap.size w w' := by
  obtain ⟨_, a1, cap1, rfl, hc1⟩ := h1
  obtain ⟨_, a2, cap2, rfl, hc2⟩ := h2
  go_enter Try.func33, Try.ntmps33
  go_wp2
  go_loopw [9] (fun i wr => ∃ k : Nat, k ≤ l.length ∧ i = .int .i64 k ∧ Below w.heap.size w wr) (fun i _ => l.length - (intOf i).toNat)
  case atStart => exact ⟨0, by omega, rfl, Below.refl _ _⟩
  case round =>
    obtain ⟨k, hk, rfl, hbel⟩ := hrel
    by_cases hlt : k < l.length
    · obtain ⟨b1, o1, rfl, hb1, hcl1⟩ := hc1 (by omega)
      obtain ⟨b2, o2, rfl, hb2, hcl2⟩ := hc2 (by omega)
      have hx : l[k]? = some (l[k]'hlt) := List.getElem?_eq_getElem hlt
      generalize l[k]'hlt = x at hx
      have c0 := (hbel.cell (p := ⟨b1, _, none⟩) hb1).trans (hcl1 k hlt 0 (by omega))
      have c1 := (hbel.cell (p := ⟨b1, _, none⟩) hb1).trans (hcl1 k hlt 1 (by omega))
      have d0 := (hbel.cell (p := ⟨b2, _, none⟩) hb2).trans (hcl2 k hlt 0 (by omega))
      have d1 := (hbel.cell (p := ⟨b2, _, none⟩) hb2).trans (hcl2 k hlt 1 (by omega))
      have hl1 : b1 < wr.heap.size := Nat.lt_of_lt_of_le hb1 hbel.size
      have hl2 : b2 < wr.heap.size := Nat.lt_of_lt_of_le hb2 hbel.size
      rw [atl_get hx (v := .int .i64 x.1) rfl] at c0 d0
      rw [atl_get hx (v := .string x.2) rfl] at c1 d1
      simp only [Nat.add_zero] at c0 d0
      have hg : decide (l.length ≤ k) = false := by simpa using hlt
      have hgi : (k : Int) < (l.length : Int) := by omega
      clear hcl1 hcl2 hc1 hc2 hx
      go_wp2_with fail
      go_quiet (fail)
      go_wp2
      go_roundw
      case rel => exact ⟨k + 1, by omega, by go_num, bel_drewN (hbel.alloc hbel.size _) _⟩
      case measure => simp [intOf]; omega
    · obtain rfl : k = l.length := by omega
      clear hc1 hc2
      go_wp2
      go_ret
      exact ⟨by simp, hbel⟩
end Go.Proofs.Ytjibphpkebcoeaa
