/- Which descriptors are right: both sides. -/
import Derived.Test.YtidmkdaegglepaaP0
set_option linter.all false
namespace Go.Proofs.Ytidmkdaegglepaa
open Go.RowKit

theorem alloc_below (w : World) (o : Obj) : Below w.heap.size w (w.alloc o) := (Below.refl _ _).alloc (Nat.le_refl _) o
def procB (p : Int) : Bool := decide (1 ≤ p) && decide (p ≤ 6)
def withB (n m : Int) : Bool := decide (0 ≤ n) && decide (n < m)
theorem process_any (p : Int) (w : World) : Calls Try.prog 55 #[.int .i64 p] w fun e w' => e = .returned (.bool (procB p)) ∧ w = w' := by
  unfold procB
  by_cases h : 1 ≤ p
  · have e0 : decide (1 ≤ p) = true := by simpa using h
    rw [e0, Bool.true_and]
    go_enter Try.func55, Try.ntmps55
    go_wp2
    go_ret
    exact ⟨rfl, rfl⟩
  · have e0 : decide (1 ≤ p) = false := by simpa using h
    rw [e0, Bool.false_and]
    go_enter Try.func55, Try.ntmps55
    go_wp2
    go_ret
    exact ⟨rfl, rfl⟩
theorem within_any (n m : Int) (w : World) : Calls Try.prog 56 #[.int .i64 n, .int .i64 m] w fun e w' => e = .returned (.bool (withB n m)) ∧ w = w' := by
  unfold withB
  by_cases h : 0 ≤ n
  · have e0 : decide (0 ≤ n) = true := by simpa using h
    rw [e0, Bool.true_and]
    go_enter Try.func56, Try.ntmps56
    go_wp2
    go_ret
    exact ⟨rfl, rfl⟩
  · have e0 : decide (0 ≤ n) = false := by simpa using h
    rw [e0, Bool.false_and]
    go_enter Try.func56, Try.ntmps56
    go_wp2
    go_ret
    exact ⟨rfl, rfl⟩
/-- How many objects and places a kind has. -/
def nObj (k : Int) : Int := if k = 1 then 1 else if k = 2 then 4 else if k = 3 ∨ k = 4 then 3 else 0
def nOff (k : Int) : Int := if k = 2 then 33 else 1
theorem rg_eq (x : DE) : rg x = (procB x.pid && (withB x.slot 6 && (withB x.obj (nObj x.kind) && withB x.off (nOff x.kind)))) := by
  rw [Bool.eq_iff_iff]
  unfold rg
  simp only [decide_eq_true_eq, Bool.and_eq_true, procB, withB, Rg, nObj, nOff]
  by_cases h1 : x.kind = 1
  · simp [h1]; omega
  · by_cases h2 : x.kind = 2
    · simp [h2]; omega
    · by_cases h3 : x.kind = 3 ∨ x.kind = 4
      · simp [h1, h2, h3]; omega
      · simp [h1, h2, h3]; omega
set_option maxHeartbeats 1600000 in
set_option maxRecDepth 100000 in
theorem right_tail (x : DE) (w : World) (B1 B2 B3 B4 : Bool) (h1 : procB x.pid = B1) (h2 : withB x.slot 6 = B2) (h3 : withB x.obj (nObj x.kind) = B3) (h4 : withB x.off (nOff x.kind) = B4) :
    Calls Try.prog 14 #[.agg (da x)] w fun e w' => e = .returned (.bool (B1 && (B2 && (B3 && B4)))) ∧ Below w.heap.size w w' := by
  obtain ⟨pid, slot, kind, obj, off⟩ := x
  have hb := alloc_below w (.cells (da ⟨pid, slot, kind, obj, off⟩) 23)
  have H1 := Lib.hid h1
  have H2 := Lib.hid h2
  have H3 := Lib.hid h3
  have H4 := Lib.hid h4
  unfold da at hb ⊢
  simp only at H1 H2 H3 H4 hb ⊢
  clear h1 h2 h3 h4
  have key : (kind = 1 ∨ kind = 2 ∨ kind = 3 ∨ kind = 4) ∨ (kind ≠ 1 ∧ kind ≠ 2 ∧ kind ≠ 3 ∧ kind ≠ 4) := by omega
  rcases key with (rfl | rfl | rfl | rfl) | ⟨k1, k2, k3, k4⟩
  case inr =>
    have e1 : (kind == 1) = false := by simpa using k1
    have e2 : (kind == 2) = false := by simpa using k2
    have e3 : (kind == 3) = false := by simpa using k3
    have e4 : (kind == 4) = false := by simpa using k4
    have n1 : nObj kind = 0 := by simp [nObj, k1, k2, k3, k4]
    have n2 : nOff kind = 1 := by simp [nOff, k2]
    rw [n1] at H3
    rw [n2] at H4
    clear k1 k2 k3 k4 n1 n2
    go_enter Try.func14, Try.ntmps14
    cases B1
    · go_wp2_with (go_at_call 55; refine (process_any _ _).mono ?_; rintro e w' ⟨rfl, rfl⟩; rw [H1.out])
      go_ret
      exact ⟨rfl, hb⟩
    · cases B2
      · go_wp2_with (first
          | (go_at_call 55; refine (process_any _ _).mono ?_; rintro e w' ⟨rfl, rfl⟩; rw [H1.out])
          | (go_at_call 56; refine (within_any _ _ _).mono ?_; rintro e w' ⟨rfl, rfl⟩; first | rw [H2.out] | rw [H3.out] | rw [H4.out]))
        go_ret
        exact ⟨rfl, hb⟩
      · cases B3
        · go_wp2_with (first
            | (go_at_call 55; refine (process_any _ _).mono ?_; rintro e w' ⟨rfl, rfl⟩; rw [H1.out])
            | (go_at_call 56; refine (within_any _ _ _).mono ?_; rintro e w' ⟨rfl, rfl⟩; first | rw [H2.out] | rw [H3.out] | rw [H4.out]))
          go_ret
          exact ⟨rfl, hb⟩
        · go_wp2_with (first
            | (go_at_call 55; refine (process_any _ _).mono ?_; rintro e w' ⟨rfl, rfl⟩; rw [H1.out])
            | (go_at_call 56; refine (within_any _ _ _).mono ?_; rintro e w' ⟨rfl, rfl⟩; first | rw [H2.out] | rw [H3.out] | rw [H4.out]))
          go_ret
          exact ⟨rfl, hb⟩
  all_goals
    simp only [show nObj 1 = 1 from rfl, show nObj 2 = 4 from rfl, show nObj 3 = 3 from rfl, show nObj 4 = 3 from rfl] at H3
    simp only [show nOff 1 = 1 from rfl, show nOff 2 = 33 from rfl, show nOff 3 = 1 from rfl, show nOff 4 = 1 from rfl] at H4
    go_enter Try.func14, Try.ntmps14
    cases B1
    · go_wp2_with (go_at_call 55; refine (process_any _ _).mono ?_; rintro e w' ⟨rfl, rfl⟩; rw [H1.out])
      go_ret
      exact ⟨rfl, hb⟩
    · cases B2
      · go_wp2_with (first
          | (go_at_call 55; refine (process_any _ _).mono ?_; rintro e w' ⟨rfl, rfl⟩; rw [H1.out])
          | (go_at_call 56; refine (within_any _ _ _).mono ?_; rintro e w' ⟨rfl, rfl⟩; first | rw [H2.out] | rw [H3.out] | rw [H4.out]))
        go_ret
        exact ⟨rfl, hb⟩
      · cases B3
        · go_wp2_with (first
            | (go_at_call 55; refine (process_any _ _).mono ?_; rintro e w' ⟨rfl, rfl⟩; rw [H1.out])
            | (go_at_call 56; refine (within_any _ _ _).mono ?_; rintro e w' ⟨rfl, rfl⟩; first | rw [H2.out] | rw [H3.out] | rw [H4.out]))
          go_ret
          exact ⟨rfl, hb⟩
        · go_wp2_with (first
            | (go_at_call 55; refine (process_any _ _).mono ?_; rintro e w' ⟨rfl, rfl⟩; rw [H1.out])
            | (go_at_call 56; refine (within_any _ _ _).mono ?_; rintro e w' ⟨rfl, rfl⟩; first | rw [H2.out] | rw [H3.out] | rw [H4.out]))
          go_ret
          exact ⟨rfl, hb⟩
theorem dright (x : DE) (w : World) : Calls Try.prog 14 #[.agg (da x)] w fun e w' => e = .returned (.bool (rg x)) ∧ Below w.heap.size w w' := by
  rw [rg_eq]
  exact right_tail x w _ _ _ _ rfl rfl rfl rfl
end Go.Proofs.Ytidmkdaegglepaa
