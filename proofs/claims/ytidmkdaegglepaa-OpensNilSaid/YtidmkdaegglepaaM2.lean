/- Right, the reference's; and 'ref'. -/
import Derived.Test.YtidmkdaegglepaaM1
set_option linter.all false
namespace Go.Proofs.Ytidmkdaegglepaa
open Go.RowKit

set_option maxHeartbeats 3200000 in
set_option maxRecDepth 100000 in
theorem rright (x : DE) (w : World) : Calls Try.prog 15 #[.agg (da x)] w fun e w' => e = .returned (.bool (rg x)) ∧ Below w.heap.size w w' := by
  obtain ⟨pid, slot, kind, obj, off⟩ := x
  have hb := alloc_below w (.cells (da ⟨pid, slot, kind, obj, off⟩) 26)
  have hr : rg ⟨pid, slot, kind, obj, off⟩ = decide (1 ≤ pid ∧ pid ≤ 6 ∧ 0 ≤ slot ∧ slot ≤ 5 ∧ 0 ≤ obj ∧ 0 ≤ off ∧ ((kind = 1 ∧ obj = 0 ∧ off = 0) ∨ (kind = 2 ∧ obj < 4 ∧ off < 33) ∨ ((kind = 3 ∨ kind = 4) ∧ obj < 3 ∧ off = 0))) := by unfold rg Rg; rfl
  rw [hr]
  unfold da at hb ⊢
  simp only at hb ⊢
  clear hr
  by_cases hbad : pid < 1 ∨ 6 < pid ∨ slot < 0 ∨ 5 < slot ∨ obj < 0 ∨ off < 0
  · have hv : (decide (1 ≤ pid ∧ pid ≤ 6 ∧ 0 ≤ slot ∧ slot ≤ 5 ∧ 0 ≤ obj ∧ 0 ≤ off ∧ ((kind = 1 ∧ obj = 0 ∧ off = 0) ∨ (kind = 2 ∧ obj < 4 ∧ off < 33) ∨ ((kind = 3 ∨ kind = 4) ∧ obj < 3 ∧ off = 0)))) = false := by simp; omega
    rw [hv]
    clear hv
    go_enter Try.func15, Try.ntmps15
    by_cases h1 : pid < 1
    · have d1 : decide (pid < 1) = true := by simpa using h1
      clear hbad h1
      go_wp2
      go_ret
      exact ⟨rfl, hb⟩
    have d1 : decide (pid < 1) = false := by simp; omega
    by_cases h2 : 6 < pid
    · have d2 : decide (6 < pid) = true := by simpa using h2
      clear hbad h1 h2
      go_wp2
      go_ret
      exact ⟨rfl, hb⟩
    have d2 : decide (6 < pid) = false := by simp; omega
    by_cases h3 : slot < 0
    · have d3 : decide (slot < 0) = true := by simpa using h3
      clear hbad h1 h2 h3
      go_wp2
      go_ret
      exact ⟨rfl, hb⟩
    have d3 : decide (slot < 0) = false := by simp; omega
    by_cases h4 : 5 < slot
    · have d4 : decide (5 < slot) = true := by simpa using h4
      clear hbad h1 h2 h3 h4
      go_wp2
      go_ret
      exact ⟨rfl, hb⟩
    have d4 : decide (5 < slot) = false := by simp; omega
    by_cases h5 : obj < 0
    · have d5 : decide (obj < 0) = true := by simpa using h5
      clear hbad h1 h2 h3 h4 h5
      go_wp2
      go_ret
      exact ⟨rfl, hb⟩
    have d5 : decide (obj < 0) = false := by simp; omega
    have d6 : decide (off < 0) = true := by simp; omega
    clear hbad h1 h2 h3 h4 h5
    go_wp2
    go_ret
    exact ⟨rfl, hb⟩
  · have d1 : decide (pid < 1) = false := by simp; omega
    have d2 : decide (6 < pid) = false := by simp; omega
    have d3 : decide (slot < 0) = false := by simp; omega
    have d4 : decide (5 < slot) = false := by simp; omega
    have d5 : decide (obj < 0) = false := by simp; omega
    have d6 : decide (off < 0) = false := by simp; omega
    have hv : (decide (1 ≤ pid ∧ pid ≤ 6 ∧ 0 ≤ slot ∧ slot ≤ 5 ∧ 0 ≤ obj ∧ 0 ≤ off ∧ ((kind = 1 ∧ obj = 0 ∧ off = 0) ∨ (kind = 2 ∧ obj < 4 ∧ off < 33) ∨ ((kind = 3 ∨ kind = 4) ∧ obj < 3 ∧ off = 0)))) = ((kind == 1 && (obj == 0 && off == 0)) || ((kind == 2 && (decide (obj < 4) && decide (off < 33))) || ((kind == 3 || kind == 4) && (decide (obj < 3) && off == 0)))) := by
      rw [Bool.eq_iff_iff]
      simp
      omega
    rw [hv]
    clear hv hbad
    go_enter Try.func15, Try.ntmps15
    by_cases k1 : kind = 1
    · subst k1
      cases e1 : (obj == 0)
      · go_wp2
        go_ret
        exact ⟨by simp, hb⟩
      · go_wp2
        go_ret
        exact ⟨by simp, hb⟩
    have x1 : (kind == 1) = false := by simpa using k1
    by_cases k2 : kind = 2
    · subst k2
      clear k1
      cases e1 : decide (obj < 4)
      · go_wp2
        go_ret
        exact ⟨by simp, hb⟩
      · go_wp2
        go_ret
        exact ⟨by simp, hb⟩
    have x2 : (kind == 2) = false := by simpa using k2
    by_cases k3 : kind = 3
    · subst k3
      clear k1 k2
      cases e1 : decide (obj < 3)
      · go_wp2
        go_ret
        exact ⟨by simp, hb⟩
      · go_wp2
        go_ret
        exact ⟨by simp, hb⟩
    have x3 : (kind == 3) = false := by simpa using k3
    by_cases k4 : kind = 4
    · subst k4
      clear k1 k2 k3
      cases e1 : decide (obj < 3)
      · go_wp2
        go_ret
        exact ⟨by simp, hb⟩
      · go_wp2
        go_ret
        exact ⟨by simp, hb⟩
    have x4 : (kind == 4) = false := by simpa using k4
    rw [x1, x2, x3, x4]
    clear k1 k2 k3 k4
    go_wp2
    go_ret
    exact ⟨by simp, hb⟩
end Go.Proofs.Ytidmkdaegglepaa
