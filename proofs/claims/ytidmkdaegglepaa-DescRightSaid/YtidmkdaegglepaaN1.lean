/- DescRight, the walk. -/
import Derived.Test.YtidmkdaegglepaaM9
set_option linter.all false
namespace Go.Proofs.Ytidmkdaegglepaa
open Go.RowKit
set_option maxHeartbeats 3200000 in
set_option maxRecDepth 100000 in
theorem descRight_any (pid slot kind obj off : Int) (w : World) :
    Calls Try.prog 3 #[.agg #[.int .i64 pid, .int .i64 slot, .int .i64 kind, .int .i64 obj, .int .i64 off]] w fun e w' => e = .returned (.bool true) ∧ Below w.heap.size w w' := by
  have H0 := (Blk.new w 23 #[.int .i64 pid, .int .i64 slot, .int .i64 kind, .int .i64 obj, .int .i64 off]).drew
  have B0 := (alloc_below w (.cells #[.int .i64 pid, .int .i64 slot, .int .i64 kind, .int .i64 obj, .int .i64 off] 23)).drew
  have hR := fun u => dright ⟨pid, slot, kind, obj, off⟩ u
  have hF := fun u => ref_any ⟨pid, slot, kind, obj, off⟩ u
  have hQ := fun u => rright ⟨pid, slot, kind, obj, off⟩ u
  generalize rg ⟨pid, slot, kind, obj, off⟩ = r at *
  unfold da at hR hF hQ
  simp only at hR hF hQ
  have HR := Lib.hid hR
  have HF := Lib.hid hF
  have HQ := Lib.hid hQ
  clear hR hF hQ
  go_enter Try.func3, Try.ntmps3
  go_wp2_with fail
  go_region_held3 (fun w' => w'.cell? ⟨w.heap.size, 0, none⟩ = some (.int .i64 pid) ∧ w'.cell? ⟨w.heap.size, 1, none⟩ = some (.int .i64 slot) ∧ w'.cell? ⟨w.heap.size, 2, none⟩ = some (.int .i64 kind) ∧ w'.cell? ⟨w.heap.size, 3, none⟩ = some (.int .i64 obj) ∧ w'.cell? ⟨w.heap.size, 4, none⟩ = some (.int .i64 off))
    (first | exact ⟨H0.cell 0, H0.cell 1, H0.cell 2, H0.cell 3, H0.cell 4⟩ | exact ⟨g1.cell 0, g1.cell 1, g1.cell 2, g1.cell 3, g1.cell 4⟩ | exact ⟨g2.cell 0, g2.cell 1, g2.cell 2, g2.cell 3, g2.cell 4⟩ | exact ⟨g3.cell 0, g3.cell 1, g3.cell 2, g3.cell 3, g3.cell 4⟩ | exact ⟨g4.cell 0, g4.cell 1, g4.cell 2, g4.cell 3, g4.cell 4⟩)
    (first
      | (go_at_call 14; refine (HR.out _).mono ?_; rintro e w1 ⟨rfl, b1⟩; have g1 := H0.mod (Mod.of_below b1) (fun h => h); have t1 := B0.trans (b1.mono B0.size))
      | (go_at_call 16; refine (HF.out _).mono ?_; rintro e w2 ⟨rfl, b2⟩; have g2 := g1.mod (Mod.of_below b2) (fun h => h); have t2 := t1.trans (b2.mono t1.size))
      | (go_at_call 15; refine (HQ.out _).mono ?_; rintro e w3 ⟨rfl, b3⟩; have g3 := g2.mod (Mod.of_below b3) (fun h => h); have t3 := t2.trans (b3.mono t2.size))
      | (go_at_call 17; refine (five_any _).mono ?_; rintro e w4 ⟨rfl, b4⟩; have g4 := g3.mod (Mod.of_below b4) (fun h => h); have t4 := t3.trans (b4.mono t3.size)))
  all_goals
    go_wp2
    go_ret
    exact ⟨by simp, by assumption⟩
end Go.Proofs.Ytidmkdaegglepaa
