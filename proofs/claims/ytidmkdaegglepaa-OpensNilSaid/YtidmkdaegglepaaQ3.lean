/- The reference's descriptors: Put, Add, Dup. -/
import Derived.Test.YtidmkdaegglepaaQ2
set_option linter.all false
namespace Go.Proofs.Ytidmkdaegglepaa
open Go.RowKit

theorem atI_none {l : List DE} {p s : Int} (h : look l p s = none) : atI l p s = -1 := by
  rcases atI_look l p s with ⟨h1, _⟩ | ⟨j, x, _, h2, _⟩
  · exact h1
  · rw [h] at h2; cases h2
theorem atI_some {l : List DE} {p s : Int} {x : DE} (h : look l p s = some x) : ∃ j : Nat, atI l p s = j ∧ l[j]? = some x := by
  rcases atI_look l p s with ⟨_, h2⟩ | ⟨j, y, h1, h2, h3, _⟩
  · rw [h] at h2; cases h2
  · rw [h] at h2; cases h2; exact ⟨j, h1, h3⟩
set_option maxHeartbeats 3200000 in
set_option maxRecDepth 100000 in
theorem rput (w : World) (B rb : Nat) (l : List DE) (e : DE) (h : RT w B rb l) (hl : l.length ≤ 1000) (hB : B ≤ w.heap.size) :
    Calls Try.prog 84 #[.pointer (some ⟨rb, 0, none⟩), .agg (da e)] w fun r w' => r = .returned (.tuple #[.int .i64 (putV l e), .int .i64 (putE l e)]) ∧ RT w' B rb (putL l e) ∧ Mod (RF w B rb) w w' := by
  have hI := fun u (k : Int) (hu : RT u B rb l) hBu => rins u B rb l { e with slot := k } hu hl hBu
  have hA := fun u (k : Int) (hu : RT u B rb l) => rat u B rb l e.pid k hu hl
  obtain ⟨pid, slot0, kind, obj, off⟩ := e
  have hbx := Blk.new w 26 (da ⟨pid, slot0, kind, obj, off⟩)
  have b0 := alloc_below w (.cells (da ⟨pid, slot0, kind, obj, off⟩) 26)
  unfold da at *
  simp only at hbx b0 hI hA ⊢
  have HI := Lib.hid hI
  have HA := Lib.hid hA
  clear hI hA
  go_enter Try.func84, Try.ntmps84
  go_wp2_with fail
  go_loopw [6] (fun i wr => ∃ k : Nat, k ≤ 6 ∧ i = .int .i64 k ∧ Hid (∀ j : Nat, j < k → (look l pid j).isSome = true) ∧ Blk wr w.heap.size 26 #[.int .i64 pid, .int .i64 slot0, .int .i64 kind, .int .i64 obj, .int .i64 off] ∧ Below w.heap.size w wr) (fun i _ => 6 - (intOf i).toNat)
  case atStart => exact ⟨0, by omega, rfl, fun j hj => absurd hj (by omega), hbx, b0⟩
  case round =>
    obtain ⟨k, hk, rfl, hj, hbw, hbel⟩ := hrel
    clear hbx b0
    have hsz := hbel.size
    have hd := h.quiet hbel
    by_cases hlt : k < 6
    · have d0 : decide ((k : Int) < 6) = true := by simp; omega
      have c0 := hbw.cell 0
      simp at c0
      go_wp2_with fail
      refine (HA.out wr k hd).mono ?_
      rintro e w1 ⟨rfl, b1⟩
      have hbw1 := hbw.mod (Mod.of_below b1) (fun h => h)
      have hbel1 := hbel.trans (b1.mono hsz)
      have q0 := hbw1.cell 0
      have q1 := hbw1.cell 1
      have q2 := hbw1.cell 2
      have q3 := hbw1.cell 3
      have q4 := hbw1.cell 4
      simp at q0 q1 q2 q3 q4
      have hd1 := h.quiet hbel1
      rcases hx : look l pid k with _ | x
      · have e1 := atI_none hx
        rw [e1]
        have hfr := free_some hj.out hlt hx
        have HF := Lib.hid hfr
        clear hfr hx e1 hd b1 hbw c0
        go_wp2_with fail
        refine (HI.out w1 k hd1 (Nat.le_trans hB hbel1.size)).mono ?_
        rintro e w2 ⟨rfl, h2, m2⟩
        have m3 := rmod_via hbel1 m2
        clear hd1 m2 q0 q1 q2 q3 q4 hbw1
        go_wp2
        go_ret2
        exact ⟨by simp [putV, putE, HF.out], by rw [putL, HF.out]; exact h2, m3⟩
      · obtain ⟨m, e1, _⟩ := atI_some hx
        rw [e1]
        have hj2 : ∀ j : Nat, j < k + 1 → (look l pid j).isSome = true := by
          intro j hjk
          rcases Nat.lt_or_ge j k with h1 | h1
          · exact hj.out j h1
          · obtain rfl : j = k := by omega
            rw [hx]; rfl
        have HJ := Lib.hid hj2
        clear hj2 hx e1 hd b1 hbw c0
        go_wp2
        go_roundw
        case rel => exact ⟨k + 1, by omega, by go_num, HJ, hbw1, hbel1⟩
        case measure => simp [intOf]; omega
    · obtain rfl : k = 6 := by omega
      have hfr := free_none hj.out
      have HF := Lib.hid hfr
      clear hfr hbw
      go_wp2
      go_ret2
      exact ⟨by simp [putV, putE, HF.out], by rw [putL, HF.out]; exact hd, mod_q hbel⟩
end Go.Proofs.Ytidmkdaegglepaa
