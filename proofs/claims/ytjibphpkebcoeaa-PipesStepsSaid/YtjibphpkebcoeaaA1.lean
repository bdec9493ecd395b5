/- Walks over the pipes. -/
import Derived.Test.YtjibphpkebcoeaaA0
set_option linter.all false
namespace Go.Proofs.Ytjibphpkebcoeaa
open Go.RowKit
set_option maxHeartbeats 400000 in
theorem number_yes (i : Int) (w : World) (h : 0 ≤ i) (h2 : i < 3) :
    Calls Try.prog 51 #[.int .i64 i] w fun e w' => e = .returned (.bool true) ∧ w = w' := by
  go_enter Try.func51, Try.ntmps51
  go_wp2
  go_ret
  exact ⟨by simp [h2], rfl⟩
set_option maxHeartbeats 400000 in
theorem number_no (i : Int) (w : World) (h : i < 0 ∨ 3 ≤ i) :
    Calls Try.prog 51 #[.int .i64 i] w fun e w' => e = .returned (.bool false) ∧ w = w' := by
  rcases h with h | h
  · go_enter Try.func51, Try.ntmps51
    go_wp2
    go_ret
    exact ⟨rfl, rfl⟩
  · have h2 : decide (i < 3) = false := by simp; omega
    have h3 : decide (0 ≤ i) = true := by simp; omega
    go_enter Try.func51, Try.ntmps51
    go_wp2
    go_ret
    exact ⟨by simp [h2], rfl⟩

set_option maxHeartbeats 400000 in
theorem of_arg (p : Value) (id : Int) (w : World) (h : id < 0 ∨ 3 ≤ id) :
    Calls Try.prog 39 #[p, .int .i64 id] w fun e w' => e = .returned (.tuple #[.pointer none, .int .i64 1]) ∧ w = w' := by
  go_enter Try.func39, Try.ntmps39
  go_wp2_with (go_at_call 51; refine (number_no _ _ h).mono ?_; rintro e w' ⟨rfl, rfl⟩)
  go_ret2
  exact ⟨rfl, rfl⟩

set_option maxHeartbeats 400000 in
theorem of_nil (id : Int) (w : World) (h : 0 ≤ id) (h2 : id < 3) :
    Calls Try.prog 39 #[.pointer none, .int .i64 id] w fun e w' => e = .returned (.tuple #[.pointer none, .int .i64 6]) ∧ w = w' := by
  go_enter Try.func39, Try.ntmps39
  go_wp2_with (go_at_call 51; refine (number_yes _ _ h h2).mono ?_; rintro e w' ⟨rfl, rfl⟩)
  go_ret2
  exact ⟨rfl, rfl⟩

/-- The table at block b: three places. -/
def Tab (w : World) (b : Nat) (s : PS) : Prop := ∀ i, i < 3 → w.cell? ⟨b, i, none⟩ = some (pv (s i)) ∧ w.frozen? ⟨b, i, none⟩ = false

set_option maxHeartbeats 400000 in
theorem of_none (s : PS) (b i : Nat) (w : World) (h : i < 3) (hs : s i = none) (ht : Tab w b s) :
    Calls Try.prog 39 #[.pointer (some ⟨b, 0, none⟩), .int .i64 i] w fun e w' => e = .returned (.tuple #[.pointer none, .int .i64 6]) ∧ w = w' := by
  have k0 := (ht i h).1
  simp only [hs, pv] at k0
  clear ht hs
  go_enter Try.func39, Try.ntmps39
  go_wp2_with (go_at_call 51; refine (number_yes _ _ (by omega) (by omega)).mono ?_; rintro e w' ⟨rfl, rfl⟩)
  go_ret2
  exact ⟨rfl, rfl⟩

set_option maxHeartbeats 400000 in
theorem of_some (s : PS) (b i c : Nat) (d : ByteArray) (w : World) (h : i < 3) (hs : s i = some (c, d)) (ht : Tab w b s) :
    Calls Try.prog 39 #[.pointer (some ⟨b, 0, none⟩), .int .i64 i] w fun e w' => e = .returned (.tuple #[.pointer (some ⟨c, 0, none⟩), .int .i64 0]) ∧ w = w' := by
  have k0 := (ht i h).1
  simp only [hs, pv] at k0
  clear ht hs
  go_enter Try.func39, Try.ntmps39
  go_wp2_with (go_at_call 51; refine (number_yes _ _ (by omega) (by omega)).mono ?_; rintro e w' ⟨rfl, rfl⟩)
  go_ret2
  exact ⟨rfl, rfl⟩

set_option maxHeartbeats 400000 in
theorem write_some (s : PS) (b i c : Nat) (d x : ByteArray) (w : World) (h : i < 3) (hs : s i = some (c, d)) (ht : Tab w b s)
   (hc : w.cell? ⟨c, 0, none⟩ = some (.string d)) (hf : w.frozen? ⟨c, 0, none⟩ = false) (hd : d.size ≤ 16) (hx : x.size + d.size ≤ 16) :
    Calls Try.prog 16 #[.pointer (some ⟨b, 0, none⟩), .int .i64 i, .string x] w fun e w' => e = .returned (.int .i64 0) ∧ w' = w.setCell ⟨c, 0, none⟩ (.string (d ++ x)) := by
  go_enter Try.func16, Try.ntmps16
  go_wp2_with (go_at_call 39; refine (of_some s b i c d _ h hs ht).mono ?_; rintro e w' ⟨rfl, rfl⟩)
  go_ret
  exact ⟨rfl, rfl⟩

set_option maxHeartbeats 400000 in
theorem write_full (s : PS) (b i c : Nat) (d x : ByteArray) (w : World) (h : i < 3) (hs : s i = some (c, d)) (ht : Tab w b s)
   (hc : w.cell? ⟨c, 0, none⟩ = some (.string d)) (hd : d.size ≤ 16) (hx : 16 < x.size + d.size) :
    Calls Try.prog 16 #[.pointer (some ⟨b, 0, none⟩), .int .i64 i, .string x] w fun e w' => e = .returned (.int .i64 5) ∧ w' = w := by
  go_enter Try.func16, Try.ntmps16
  go_wp2_with (go_at_call 39; refine (of_some s b i c d _ h hs ht).mono ?_; rintro e w' ⟨rfl, rfl⟩)
  go_ret
  exact ⟨rfl, rfl⟩
end Go.Proofs.Ytjibphpkebcoeaa
