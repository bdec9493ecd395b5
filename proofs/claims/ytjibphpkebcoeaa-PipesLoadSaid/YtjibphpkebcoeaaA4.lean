/- Walks over the pipes' laws, 4. -/
import Derived.Test.YtjibphpkebcoeaaA3
set_option linter.all false
namespace Go.Proofs.Ytjibphpkebcoeaa
open Go.RowKit

structure PStep where
  what : Int
  id : Int
  n : Int
  s : ByteArray
def stepCells (l : Nat → PStep) (i j : Nat) : Value :=
  match j with
  | 0 => .int .i64 (l i).what
  | 1 => .int .i64 (l i).id
  | 2 => .int .i64 (l i).n
  | _ => .string (l i).s

def longB (l : Nat → PStep) (n : Nat) : Bool := decide (61 < n) || (List.range n).any fun i => decide (100 < (l i).s.size)

set_option maxHeartbeats 800000 in
set_option maxRecDepth 100000 in
theorem long_any (l : Nat → PStep) (v : Value) (n : Nat) (w : World) (hin : Inp w w.heap.size v n 4 (stepCells l)) :
    Calls Try.prog 13 #[v] w fun e w' => (e = .returned (.bool true) ∨ (e = .returned (.bool false) ∧ n ≤ 61 ∧ ∀ i, i < n → (l i).s.size ≤ 100)) ∧ Below w.heap.size w w' := by
  obtain ⟨hn, a, cap, rfl, hc⟩ := hin
  unfold maxLen at hn
  go_enter Try.func13, Try.ntmps13
  go_wp2
  go_loopw [7] (fun i wr => ∃ k : Nat, k ≤ n ∧ i = .int .i64 k ∧ k ≤ 61 ∧ (∀ i, i < k → (l i).s.size ≤ 100) ∧ Below w.heap.size w wr) (fun i _ => n - (intOf i).toNat)
  case atStart => exact ⟨0, by omega, rfl, by omega, fun i h => by omega, Below.refl _ _⟩
  case round =>
    obtain ⟨k, hk, rfl, hk2, hs, hbel⟩ := hrel
    by_cases hlt : k < n
    · obtain ⟨b, off, rfl, hb, hcl⟩ := hc (by omega)
      have c0 := (hbel.cell (p := ⟨b, _, none⟩) hb).trans (hcl k hlt 0 (by omega))
      have c1 := (hbel.cell (p := ⟨b, _, none⟩) hb).trans (hcl k hlt 1 (by omega))
      have c2 := (hbel.cell (p := ⟨b, _, none⟩) hb).trans (hcl k hlt 2 (by omega))
      have c3 := (hbel.cell (p := ⟨b, _, none⟩) hb).trans (hcl k hlt 3 (by omega))
      clear hcl hc
      simp only [stepCells, Nat.add_zero] at c0 c1 c2 c3
      have HS := Lib.hid hs
      clear hs
      go_wp2
      · go_ret
        exact ⟨.inl rfl, hbel.alloc hbel.size _⟩
      · have hg : (k : Int) ≤ 60 ∧ ((l k).s.size : Int) ≤ 100 := by assumption
        go_roundw
        case rel =>
          refine ⟨k + 1, by omega, by go_num, by omega, ?_, hbel.alloc hbel.size _⟩
          intro i hi
          rcases Nat.lt_or_ge i k with h | h
          · exact HS.out i h
          · obtain rfl : i = k := by omega
            omega
        case measure => simp [intOf]; omega
      · go_ret
        exact ⟨.inl rfl, hbel.alloc hbel.size _⟩
    · obtain rfl : k = n := by omega
      have HS := Lib.hid hs
      clear hs hc
      go_wp2
      go_ret
      exact ⟨.inr ⟨rfl, hk2, HS.out⟩, hbel⟩
end Go.Proofs.Ytjibphpkebcoeaa
