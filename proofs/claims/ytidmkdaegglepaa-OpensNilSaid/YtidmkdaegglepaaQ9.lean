/- The reference's descriptors: Refs. -/
import Derived.Test.YtidmkdaegglepaaQ8
set_option linter.all false
namespace Go.Proofs.Ytidmkdaegglepaa
open Go.RowKit

set_option maxHeartbeats 3200000 in
set_option maxRecDepth 100000 in
theorem rrefs (w1 : World) (B rb : Nat) (l : List DE) (kd ob : Int) (h : RT w1 B rb l) (hal : l.length ≤ 1000) :
    Calls Try.prog 23 #[.pointer (some ⟨rb, 0, none⟩), .int .i64 kd, .int .i64 ob] w1 fun e w' => e = .returned (.int .i64 (cntL l kd ob : Nat)) ∧ Below w1.heap.size w1 w' := by
  obtain ⟨_, v, hb, hown⟩ := h
  have k0 := hb.cell 0
  simp at k0
  have hin := own_inp dc_len hown rfl (by unfold maxLen; omega)
  obtain ⟨_, a, cap, rfl, hc⟩ := hin
  clear hown hb
  go_enter Try.func23, Try.ntmps23
  go_wp2_with fail
  go_loopw [7, 15] (fun v i wr => ∃ j : Nat, j ≤ l.length ∧ i = .int .i64 j ∧ v = .int .i64 (cntL (l.take j) kd ob : Nat) ∧ Below w1.heap.size w1 wr) (fun _ i _ => l.length - (intOf i).toNat)
  case atStart => exact ⟨0, by omega, rfl, rfl, Below.refl _ _⟩
  case round =>
    obtain ⟨j, hj, rfl, rfl, hbel⟩ := hrel
    have hsz := hbel.size
    have hcl := cnt_len (l.take j) kd ob
    rw [List.length_take] at hcl
    by_cases hlt : j < l.length
    · obtain ⟨b, off, rfl, hb, hcc⟩ := hc (by omega)
      have hx : l[j]? = some (l[j]'hlt) := List.getElem?_eq_getElem hlt
      generalize l[j]'hlt = x at hx
      have c0 := (hbel.cell (p := ⟨b, _, none⟩) hb).trans (hcc j hlt 0 (by omega))
      have c1 := (hbel.cell (p := ⟨b, _, none⟩) hb).trans (hcc j hlt 1 (by omega))
      have c2 := (hbel.cell (p := ⟨b, _, none⟩) hb).trans (hcc j hlt 2 (by omega))
      have c3 := (hbel.cell (p := ⟨b, _, none⟩) hb).trans (hcc j hlt 3 (by omega))
      have c4 := (hbel.cell (p := ⟨b, _, none⟩) hb).trans (hcc j hlt 4 (by omega))
      rw [atl_get hx (v := .int .i64 x.pid) rfl] at c0
      rw [atl_get hx (v := .int .i64 x.slot) rfl] at c1
      rw [atl_get hx (v := .int .i64 x.kind) rfl] at c2
      rw [atl_get hx (v := .int .i64 x.obj) rfl] at c3
      rw [atl_get hx (v := .int .i64 x.off) rfl] at c4
      simp only [Nat.add_zero] at c0
      have hct := cnt_take kd ob hx
      have HCT := Lib.hid hct
      clear hcc hc hct hx
      obtain ⟨y1, y2, y3, y4, y5⟩ := x
      simp only at c0 c1 c2 c3 c4
      unfold isOf at HCT
      simp only at HCT
      generalize cntL (l.take j) kd ob = n at *
      cases e1 : (y3 == kd)
      · rw [e1] at HCT
        simp only [Bool.false_and, Bool.false_eq_true, if_false, Nat.add_zero] at HCT
        go_wp2
        go_roundw
        case rel => exact ⟨j + 1, by omega, by go_num, by rw [HCT.out], hbel.alloc hsz _⟩
        case measure => simp [intOf]; omega
      · rw [e1] at HCT
        cases e2 : (y4 == ob)
        · rw [e2] at HCT
          simp only [Bool.and_false, Bool.false_eq_true, if_false, Nat.add_zero] at HCT
          go_wp2
          go_roundw
          case rel => exact ⟨j + 1, by omega, by go_num, by rw [HCT.out], hbel.alloc hsz _⟩
          case measure => simp [intOf]; omega
        · rw [e2] at HCT
          simp only [Bool.and_self, if_true] at HCT
          have hn : n + 1 ≤ 1000 := by omega
          go_wp2
          go_roundw
          case rel => exact ⟨j + 1, by omega, by go_num, by rw [HCT.out]; go_num, hbel.alloc hsz _⟩
          case measure => simp [intOf]; omega
    · obtain rfl : j = l.length := by omega
      rw [List.take_length]
      go_wp2
      go_ret
      exact ⟨rfl, hbel⟩

end Go.Proofs.Ytidmkdaegglepaa
