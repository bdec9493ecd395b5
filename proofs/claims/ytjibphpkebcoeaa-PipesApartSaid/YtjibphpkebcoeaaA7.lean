/- 'abc' returns true. -/
import Derived.Test.YtjibphpkebcoeaaA6
set_option linter.all false
namespace Go.Proofs.Ytjibphpkebcoeaa
open Go.RowKit

def abc3 : ByteArray := { data := #[97, 98, 99] }
def abcS (N : Nat) (d : ByteArray) : PS := up (fun _ => none) 0 (some (N, d))

theorem abc_s1 (N : Nat) : wrS (abcS N ByteArray.empty) 0 abc3 = abcS N abc3 := by
  funext j
  have : ¬ (16 < abc3.size + ByteArray.empty.size) := by decide
  simp only [wrS, abcS, up]
  simp only [Int.lt_irrefl, Int.toNat_zero, ↓reduceIte, if_neg this]
  by_cases hj : j = 0 <;> simp [up, hj]
theorem abc_e1 (N : Nat) : wrE (abcS N ByteArray.empty) 0 abc3 = 0 := by
  have : ¬ (16 < abc3.size + ByteArray.empty.size) := by decide
  simp [wrE, abcS, up, if_neg this]
  decide
theorem abc_e2 (N : Nat) : rdE (abcS N abc3) 0 2 = 0 := by simp [rdE, abcS, up]
theorem abc_v2 (N : Nat) : rdV (abcS N abc3) 0 2 = { data := #[97, 98] } := by
  have : ¬ ((abc3.size : Int) < 2) := by decide
  simp [rdV, abcS, up, if_neg this]
  decide
theorem abc_s2 (N : Nat) : rdS (abcS N abc3) 0 2 = abcS N { data := #[99] } := by
  have h : ¬ ((abc3.size : Int) < 2) := by decide
  have h2 : abc3.extract 2 abc3.size = { data := #[99] } := by decide
  funext j
  simp [rdS, abcS, up, if_neg h, h2]
  split <;> rfl
theorem abc_e3 (N : Nat) : waE (abcS N { data := #[99] }) 0 = 0 := by simp [waE, abcS, up]
theorem abc_n3 (N : Nat) : waN (abcS N { data := #[99] }) 0 = 1 := by
  simp [waN, abcS, up]
  decide
theorem abc_c (N : Nat) (d : ByteArray) : cnts (abcS N d) 3 = 1 := by simp [cnts, cntAt, abcS, up]
set_option maxHeartbeats 800000 in
set_option maxRecDepth 100000 in
theorem abc_any (w : World) :
    Calls Try.prog 14 #[] w fun e w' => e = .returned (.bool true) ∧ Below w.heap.size w w' := by
  go_enter Try.func14, Try.ntmps14
  go_wp2_with fail
  refine (new_pr w _ (Nat.le_refl _)).mono ?_
  rintro e w1 ⟨rfl, h1, m1⟩
  go_wp2_with fail
  refine (open_pr w1 _ _ _ h1 m1.size).mono ?_
  rintro e w2 ⟨m2, ⟨_, rfl, h2⟩ | ⟨hbad, _⟩⟩
  rotate_left
  · simp [lowest] at hbad
  have el : lowest (fun _ => none) = 0 := by simp [lowest]
  rw [el] at h2
  simp only [el]
  have h2' : PR w2 w.heap.size w.heap.size (abcS w1.heap.size ByteArray.empty) := h2
  clear h2
  go_wp2_with fail
  refine (write_pr w2 _ _ _ 0 abc3 h2').mono ?_
  rintro e w3 ⟨rfl, h3, m3⟩
  rw [abc_s1] at h3
  simp only [abc_e1]
  go_wp2_with fail
  refine (read_pr w3 _ _ _ 0 2 h3).mono ?_
  rintro e w4 ⟨rfl, h4, m4⟩
  rw [abc_s2] at h4
  simp only [abc_e2, abc_v2]
  go_wp2_with fail
  refine (waits_pr w4 _ _ _ 0 h4).mono ?_
  rintro e w5 ⟨rfl, rfl⟩
  simp only [abc_e3, abc_n3]
  go_wp2_with fail
  refine (list_pr w4 _ _ _ h4).mono ?_
  rintro e w5 ⟨v, rfl, hv, m5⟩
  rw [abc_c] at hv
  obtain ⟨a, c, rfl⟩ := len_of_own hv
  have b1 := m1.below (Nat.le_refl _) (fun _ h => h.elim)
  have b2 := b1.trans (m2.below m1.size h1.own_low)
  have b3 := b2.trans (m3.below b2.size h2'.own_low)
  have b4 := b3.trans (m4.below b3.size h3.own_low)
  have b5 := b4.trans (m5.mono b4.size)
  clear h1 h2' h3 h4 m1 m2 m3 m4 m5 hv b1 b2 b3 b4 el
  go_wp2
  go_ret
  exact ⟨rfl, b5⟩
end Go.Proofs.Ytjibphpkebcoeaa
