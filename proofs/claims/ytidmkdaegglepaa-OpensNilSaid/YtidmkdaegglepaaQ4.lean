/- The reference's descriptors: Add, Dup. -/
import Derived.Test.YtidmkdaegglepaaQ3
set_option linter.all false
namespace Go.Proofs.Ytidmkdaegglepaa
open Go.RowKit

set_option maxHeartbeats 3200000 in
set_option maxRecDepth 100000 in
theorem radd (w : World) (B rb : Nat) (l : List DE) (e : DE) (h : RT w B rb l) (hl : l.length ≤ 1000) (hB : B ≤ w.heap.size) :
    Calls Try.prog 57 #[.pointer (some ⟨rb, 0, none⟩), .agg (da e)] w fun r w' => r = .returned (.tuple #[.int .i64 (addV l e.pid e.kind e.obj), .int .i64 (addE l e.pid e.kind e.obj)]) ∧ RT w' B rb (addL l e.pid e.kind e.obj) ∧ Mod (RF w B rb) w w' := by
  obtain ⟨pid, slot0, kind, obj, off⟩ := e
  have hbx := Blk.new w 26 (da ⟨pid, slot0, kind, obj, off⟩)
  have b0 := alloc_below w (.cells (da ⟨pid, slot0, kind, obj, off⟩) 26)
  have hR := fun u => rright (addD pid kind obj) u
  have hP := fun u (hu : RT u B rb l) hBu => rput u B rb l (addD pid kind obj) hu hl hBu
  simp only [addV, addE, addL]
  cases hr : rg (addD pid kind obj)
  · rw [hr] at hR
    simp only [Bool.false_eq_true, if_false]
    have HR := Lib.hid hR
    clear hR hP hr
    unfold da addD at *
    simp only at *
    go_enter Try.func57, Try.ntmps57
    go_wp2_with fail
    refine (HR.out _).mono ?_
    rintro e w1 ⟨rfl, b1⟩
    have b2 := b0.trans (b1.mono b0.size)
    have h2 := h.quiet b2
    clear h HR b1 hbx
    go_wp2
    go_ret2
    exact ⟨rfl, h2, mod_q b2⟩
  · rw [hr] at hR
    simp only [if_true]
    have HR := Lib.hid hR
    have HP := Lib.hid hP
    clear hR hP hr
    generalize putV l (addD pid kind obj) = v1 at *
    generalize putE l (addD pid kind obj) = v2 at *
    generalize putL l (addD pid kind obj) = l2 at *
    unfold da addD at *
    simp only at *
    go_enter Try.func57, Try.ntmps57
    go_wp2_with fail
    refine (HR.out _).mono ?_
    rintro e w1 ⟨rfl, b1⟩
    have b2 := b0.trans (b1.mono b0.size)
    have h2 := h.quiet b2
    have hbw1 := hbx.mod (Mod.of_below b1) (fun h => h)
    have q0 := hbw1.cell 0
    have q1 := hbw1.cell 1
    have q2 := hbw1.cell 2
    have q3 := hbw1.cell 3
    have q4 := hbw1.cell 4
    simp at q0 q1 q2 q3 q4
    clear h HR b1 hbx hbw1
    go_wp2_with fail
    refine (HP.out w1 h2 (Nat.le_trans hB b2.size)).mono ?_
    rintro e w2 ⟨rfl, h3, m3⟩
    have m4 := rmod_via b2 m3
    clear q0 q1 q2 q3 q4 h2 m3 HP
    go_wp2
    go_ret2
    exact ⟨rfl, h3, m4⟩
end Go.Proofs.Ytidmkdaegglepaa
