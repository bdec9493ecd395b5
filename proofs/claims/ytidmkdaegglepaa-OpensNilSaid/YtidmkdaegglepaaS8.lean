/- Both tables: 'same'. -/
import Derived.Test.YtidmkdaegglepaaS7
set_option linter.all false
namespace Go.Proofs.Ytidmkdaegglepaa
open Go.RowKit

set_option maxHeartbeats 6400000 in
set_option maxRecDepth 100000 in
theorem same_any (w : World) (va vb : Value) (l : List DE) (ha : Inp w w.heap.size va l.length 5 (atl dc l)) (hb : Inp w w.heap.size vb l.length 5 (atl dc l)) (hl : l.length ≤ 1000) :
    Calls Try.prog 20 #[va, vb] w fun e w' => e = .returned (.bool true) ∧ Below w.heap.size w w' := by
  obtain ⟨_, a1, c1, rfl, ha⟩ := ha
  obtain ⟨_, a2, c2, rfl, hb⟩ := hb
  have hF := fun x u => ref_any x u
  have HF := Lib.hid hF
  clear hF
  go_enter Try.func20, Try.ntmps20
  go_wp2_with fail
  go_loopw [9] (fun i wr => ∃ k : Nat, k ≤ l.length ∧ i = .int .i64 k ∧ Below w.heap.size w wr) (fun i _ => l.length - (intOf i).toNat)
  case atStart => exact ⟨0, by omega, rfl, Below.refl _ _⟩
  case round =>
    obtain ⟨k, hk, rfl, hbel⟩ := hrel
    have hsz := hbel.size
    by_cases hlt : k < l.length
    · obtain ⟨b1, o1, rfl, hb1, hc1⟩ := ha (by omega)
      obtain ⟨b2, o2, rfl, hb2, hc2⟩ := hb (by omega)
      have hx : l[k]? = some (l[k]'hlt) := List.getElem?_eq_getElem hlt
      generalize l[k]'hlt = x at hx
      have c0 := (hbel.cell (p := ⟨b1, _, none⟩) hb1).trans (hc1 k hlt 0 (by omega))
      have c1 := (hbel.cell (p := ⟨b1, _, none⟩) hb1).trans (hc1 k hlt 1 (by omega))
      have c2 := (hbel.cell (p := ⟨b1, _, none⟩) hb1).trans (hc1 k hlt 2 (by omega))
      have c3 := (hbel.cell (p := ⟨b1, _, none⟩) hb1).trans (hc1 k hlt 3 (by omega))
      have c4 := (hbel.cell (p := ⟨b1, _, none⟩) hb1).trans (hc1 k hlt 4 (by omega))
      rw [atl_get hx (v := .int .i64 x.pid) rfl] at c0
      rw [atl_get hx (v := .int .i64 x.slot) rfl] at c1
      rw [atl_get hx (v := .int .i64 x.kind) rfl] at c2
      rw [atl_get hx (v := .int .i64 x.obj) rfl] at c3
      rw [atl_get hx (v := .int .i64 x.off) rfl] at c4
      have r0 := (hbel.cell (p := ⟨b2, _, none⟩) hb2).trans (hc2 k hlt 0 (by omega))
      have r1 := (hbel.cell (p := ⟨b2, _, none⟩) hb2).trans (hc2 k hlt 1 (by omega))
      have r2 := (hbel.cell (p := ⟨b2, _, none⟩) hb2).trans (hc2 k hlt 2 (by omega))
      have r3 := (hbel.cell (p := ⟨b2, _, none⟩) hb2).trans (hc2 k hlt 3 (by omega))
      have r4 := (hbel.cell (p := ⟨b2, _, none⟩) hb2).trans (hc2 k hlt 4 (by omega))
      rw [atl_get hx (v := .int .i64 x.pid) rfl] at r0
      rw [atl_get hx (v := .int .i64 x.slot) rfl] at r1
      rw [atl_get hx (v := .int .i64 x.kind) rfl] at r2
      rw [atl_get hx (v := .int .i64 x.obj) rfl] at r3
      rw [atl_get hx (v := .int .i64 x.off) rfl] at r4
      simp only [Nat.add_zero] at c0 r0
      have HR := Lib.hid (HF.out x)
      clear hc1 hc2 hx HF ha hb
      obtain ⟨y1, y2, y3, y4, y5⟩ := x
      unfold da at *
      simp only at *
      have d0 : decide (l.length ≤ k) = false := by simp; omega
      have hn0 := (Blk.new wr 23 #[.int .i64 y1, .int .i64 y2, .int .i64 y3, .int .i64 y4, .int .i64 y5]).drew
      have ba := (alloc_below wr (.cells #[.int .i64 y1, .int .i64 y2, .int .i64 y3, .int .i64 y4, .int .i64 y5] 23)).drew
      go_wp2_with fail
      go_region_held3 (fun w' => w'.cell? ⟨wr.heap.size, 0, none⟩ = some (.int .i64 y1) ∧ w'.cell? ⟨wr.heap.size, 1, none⟩ = some (.int .i64 y2) ∧ w'.cell? ⟨wr.heap.size, 2, none⟩ = some (.int .i64 y3) ∧ w'.cell? ⟨wr.heap.size, 3, none⟩ = some (.int .i64 y4) ∧ w'.cell? ⟨wr.heap.size, 4, none⟩ = some (.int .i64 y5) ∧ w'.cell? ⟨b2, o2 + k * 5, none⟩ = some (.int .i64 y1) ∧ w'.cell? ⟨b2, o2 + k * 5 + 1, none⟩ = some (.int .i64 y2) ∧ w'.cell? ⟨b2, o2 + k * 5 + 2, none⟩ = some (.int .i64 y3) ∧ w'.cell? ⟨b2, o2 + k * 5 + 3, none⟩ = some (.int .i64 y4) ∧ w'.cell? ⟨b2, o2 + k * 5 + 4, none⟩ = some (.int .i64 y5))
        (first
          | exact ⟨hn0.cell 0, hn0.cell 1, hn0.cell 2, hn0.cell 3, hn0.cell 4, (ba.cell (p := ⟨b2, _, none⟩) (by show b2 < wr.heap.size; omega)).trans r0, (ba.cell (p := ⟨b2, _, none⟩) (by show b2 < wr.heap.size; omega)).trans r1, (ba.cell (p := ⟨b2, _, none⟩) (by show b2 < wr.heap.size; omega)).trans r2, (ba.cell (p := ⟨b2, _, none⟩) (by show b2 < wr.heap.size; omega)).trans r3, (ba.cell (p := ⟨b2, _, none⟩) (by show b2 < wr.heap.size; omega)).trans r4⟩
          | exact ⟨g1.cell 0, g1.cell 1, g1.cell 2, g1.cell 3, g1.cell 4, (t1.cell (p := ⟨b2, _, none⟩) (by show b2 < wr.heap.size; omega)).trans r0, (t1.cell (p := ⟨b2, _, none⟩) (by show b2 < wr.heap.size; omega)).trans r1, (t1.cell (p := ⟨b2, _, none⟩) (by show b2 < wr.heap.size; omega)).trans r2, (t1.cell (p := ⟨b2, _, none⟩) (by show b2 < wr.heap.size; omega)).trans r3, (t1.cell (p := ⟨b2, _, none⟩) (by show b2 < wr.heap.size; omega)).trans r4⟩)
        (first
          | (go_at_call 16; refine (HR.out _).mono ?_; rintro e w1 ⟨rfl, bq⟩; have g1 := hn0.mod (Mod.of_below bq) (fun h => h); have t1 := ba.trans (bq.mono ba.size)))
      all_goals
        have hb9 := hbel.trans (t1.mono hsz)
        clear c0 c1 c2 c3 c4 r0 r1 r2 r3 r4
        go_wp2
        go_roundw
        case rel => exact ⟨k + 1, by omega, by go_num, hb9⟩
        case measure => simp [intOf]; omega
    · obtain rfl : k = l.length := by omega
      clear ha hb
      go_wp2
      go_ret
      exact ⟨by simp, hbel⟩
end Go.Proofs.Ytidmkdaegglepaa
