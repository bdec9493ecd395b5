/- The reference's descriptors: Dup. -/
import Derived.Test.YtidmkdaegglepaaQ4
set_option linter.all false
namespace Go.Proofs.Ytidmkdaegglepaa
open Go.RowKit

set_option maxHeartbeats 3200000 in
set_option maxRecDepth 100000 in
theorem rdup (w : World) (B rb : Nat) (l : List DE) (p s : Int) (h : RT w B rb l) (hl : l.length ≤ 1000) (hB : B ≤ w.heap.size) :
    Calls Try.prog 59 #[.pointer (some ⟨rb, 0, none⟩), .int .i64 p, .int .i64 s] w fun r w' => r = .returned (.tuple #[.int .i64 (dupV l p s), .int .i64 (dupE l p s)]) ∧ RT w' B rb (dupL l p s) ∧ Mod (RF w B rb) w w' := by
  have hA := rat w B rb l p s h hl
  rcases hx : look l p s with _ | x
  · have e1 : dupV l p s = 0 := by simp [dupV, hx]
    have e2 : dupE l p s = 6 := by simp [dupE, hx]
    have e3 : dupL l p s = l := by simp [dupL, hx]
    rw [e1, e2, e3]
    rw [atI_none hx] at hA
    have HA := Lib.hid hA
    clear hA hx e1 e2 e3
    go_enter Try.func59, Try.ntmps59
    go_wp2_with fail
    refine HA.out.mono ?_
    rintro e w1 ⟨rfl, b1⟩
    have h2 := h.quiet b1
    clear h HA
    go_wp2
    go_ret2
    exact ⟨rfl, h2, mod_q b1⟩
  · have e1 : dupV l p s = putV l x := by simp [dupV, hx]
    have e2 : dupE l p s = putE l x := by simp [dupE, hx]
    have e3 : dupL l p s = putL l x := by simp [dupL, hx]
    rw [e1, e2, e3]
    obtain ⟨j, hj, hxj⟩ := atI_some hx
    rw [hj] at hA
    have hP := fun u (hu : RT u B rb l) hBu => rput u B rb l x hu hl hBu
    have HA := Lib.hid hA
    have HP := Lib.hid hP
    have HX := Lib.hid hxj
    clear hA hP hx e1 e2 e3 hj hxj
    generalize putV l x = v1 at *
    generalize putE l x = v2 at *
    generalize putL l x = l2 at *
    go_enter Try.func59, Try.ntmps59
    go_wp2_with fail
    refine HA.out.mono ?_
    rintro e w1 ⟨rfl, b1⟩
    have h2 := h.quiet b1
    have h3 := h2
    obtain ⟨_, v, hb, hown⟩ := h3
    have k0 := hb.cell 0
    simp at k0
    have hin := own_inp dc_len hown rfl (by unfold maxLen; omega)
    obtain ⟨_, a, cap, rfl, hc⟩ := hin
    have hjl : j < l.length := (List.getElem?_eq_some_iff.1 HX.out).1
    obtain ⟨b, off, rfl, hbb, hcc⟩ := hc (by omega)
    have c0 := hcc j hjl 0 (by omega)
    have c1 := hcc j hjl 1 (by omega)
    have c2 := hcc j hjl 2 (by omega)
    have c3 := hcc j hjl 3 (by omega)
    have c4 := hcc j hjl 4 (by omega)
    rw [atl_get HX.out (v := .int .i64 x.pid) rfl] at c0
    rw [atl_get HX.out (v := .int .i64 x.slot) rfl] at c1
    rw [atl_get HX.out (v := .int .i64 x.kind) rfl] at c2
    rw [atl_get HX.out (v := .int .i64 x.obj) rfl] at c3
    rw [atl_get HX.out (v := .int .i64 x.off) rfl] at c4
    simp only [Nat.add_zero] at c0
    clear h HA hcc hc hown hb HX
    obtain ⟨y1, y2, y3, y4, y5⟩ := x
    unfold da at *
    simp only at *
    go_wp2_with fail
    refine (HP.out w1 h2 (Nat.le_trans hB b1.size)).mono ?_
    rintro e w2 ⟨rfl, h3, m3⟩
    have m4 := rmod_via b1 m3
    clear c0 c1 c2 c3 c4 h2 m3 HP k0
    go_wp2
    go_ret2
    exact ⟨rfl, h3, m4⟩
end Go.Proofs.Ytidmkdaegglepaa
