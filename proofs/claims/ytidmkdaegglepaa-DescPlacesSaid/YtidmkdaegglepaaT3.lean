/- DescPlaces, the walk. -/
import Derived.Test.YtidmkdaegglepaaP2
set_option linter.all false
namespace Go.Proofs.Ytidmkdaegglepaa
open Go.RowKit

set_option maxHeartbeats 12800000 in
set_option maxRecDepth 100000 in
theorem descPlaces_any (v : Value) (l : List ST) (p s : Int) (w : World) (hin : Inp w w.heap.size v l.length 6 (atl sc l)) :
    Calls Try.prog 5 #[v, .int .i64 p, .int .i64 s] w fun e w' => e = .returned (.bool true) ∧ Below w.heap.size w w' := by
  obtain ⟨_, a, cap, rfl, hc⟩ := hin
  go_enter Try.func5, Try.ntmps5
  go_wp2_with fail
  refine (dnew w w.heap.size (Nat.le_refl _)).mono ?_
  rintro e w1 ⟨b, rfl, hd1, b1⟩
  by_cases hlen : 60 < l.length
  · have d0 : decide (60 < l.length) = true := by simpa using hlen
    clear hc hd1
    go_wp2_with fail
    refine (five_any _).mono ?_
    rintro e w2 ⟨rfl, b2⟩
    have b3 := b1.trans (b2.mono b1.size)
    clear b2 b1
    go_wp2
    go_ret
    exact ⟨rfl, b3⟩
  have d0 : decide (60 < l.length) = false := by simp; omega
  have hp1 := pt_new w1 w.heap.size b hd1 b1.size
  have b2 := b1.alloc b1.size (.cells #[.slice none 0 0] 35)
  clear hd1 b1
  go_wp2_with fail
  go_loopw [32] (fun i wr => ∃ (k : Nat) (L : List DE), k ≤ l.length ∧ i = .int .i64 k ∧ PT wr w.heap.size b w1.heap.size L ∧ Below w.heap.size w wr) (fun i _ => l.length - (intOf i).toNat)
  case atStart => exact ⟨0, [], by omega, rfl, hp1, b2⟩
  case round =>
    obtain ⟨k, L, hk, rfl, hp, hbel⟩ := hrel
    clear hp1 b2
    have hsz := hbel.size
    by_cases hlt : k < l.length
    · obtain ⟨b', off, rfl, hb', hcc⟩ := hc (by omega)
      have hx : l[k]? = some (l[k]'hlt) := List.getElem?_eq_getElem hlt
      generalize l[k]'hlt = st at hx
      have c0 := (hbel.cell (p := ⟨b', _, none⟩) hb').trans (hcc k hlt 0 (by omega))
      have c1 := (hbel.cell (p := ⟨b', _, none⟩) hb').trans (hcc k hlt 1 (by omega))
      have c2 := (hbel.cell (p := ⟨b', _, none⟩) hb').trans (hcc k hlt 2 (by omega))
      have c3 := (hbel.cell (p := ⟨b', _, none⟩) hb').trans (hcc k hlt 3 (by omega))
      have c4 := (hbel.cell (p := ⟨b', _, none⟩) hb').trans (hcc k hlt 4 (by omega))
      have c5 := (hbel.cell (p := ⟨b', _, none⟩) hb').trans (hcc k hlt 5 (by omega))
      rw [atl_get hx (v := .int .i64 st.what) rfl] at c0
      rw [atl_get hx (v := .int .i64 st.pid) rfl] at c1
      rw [atl_get hx (v := .int .i64 st.slot) rfl] at c2
      rw [atl_get hx (v := .int .i64 st.kind) rfl] at c3
      rw [atl_get hx (v := .int .i64 st.obj) rfl] at c4
      rw [atl_get hx (v := .int .i64 st.n) rfl] at c5
      simp only [Nat.add_zero] at c0
      have hD := fun u hu hBu => does_any u w.heap.size b w1.heap.size L st hu hBu
      have hG1 := fun u (hu : DT u w.heap.size b L) => get_any u _ L p s (.inr ⟨_, _, rfl, hu⟩)
      have hG2 := fun u (hu : DT u w.heap.size b (stepL L st)) => get_any u _ (stepL L st) p s (.inr ⟨_, _, rfl, hu⟩)
      have hlaw := places_law hp.good st p s
      have ba := (alloc_below wr (.cells (sa st) 37))
      have hn0 := (Blk.new wr 37 (sa st))
      have hp0 := hp.quiet ba
      have hb0 := hbel.trans (ba.mono hsz)
      generalize atV L p s = x at *
      generalize gtE L p s = e at *
      generalize atV (stepL L st) p s = y at *
      generalize gtE (stepL L st) p s = f at *
      generalize stepL L st = L' at *
      have HD := Lib.hid hD
      have HG1 := Lib.hid hG1
      have HG2 := Lib.hid hG2
      have HW := Lib.hid hlaw
      clear hcc hc hx hD hG1 hG2 hp hbel ba hlaw
      obtain ⟨x1, x2, x3, x4, x5, x6⟩ := st
      obtain ⟨y1, y2, y3, y4, y5⟩ := x
      obtain ⟨z1, z2, z3, z4, z5⟩ := y
      unfold sa da at *
      simp only at *
      go_wp2_with fail
      refine (HG1.out _ hp0.d).mono ?_
      rintro e w2 ⟨rfl, b2⟩
      have hn2 := (hn0.mod (Mod.of_below b2) (fun h => h)).alloc (.cells #[.int .i64 y1, .int .i64 y2, .int .i64 y3, .int .i64 y4, .int .i64 y5] 23)
      have hp2 := (hp0.quiet b2).quiet (alloc_below w2 (.cells #[.int .i64 y1, .int .i64 y2, .int .i64 y3, .int .i64 y4, .int .i64 y5] 23))
      have hb2 := (hb0.trans (b2.mono hb0.size))
      have hb2 := hb2.alloc hb2.size (.cells #[.int .i64 y1, .int .i64 y2, .int .i64 y3, .int .i64 y4, .int .i64 y5] 23)
      have hx2 := Blk.new w2 23 #[.int .i64 y1, .int .i64 y2, .int .i64 y3, .int .i64 y4, .int .i64 y5]
      have q0 := hn2.cell 0
      have q1 := hn2.cell 1
      have q2 := hn2.cell 2
      have q3 := hn2.cell 3
      have q4 := hn2.cell 4
      have q5 := hn2.cell 5
      simp at q0 q1 q2 q3 q4 q5
      clear HG1 hn0 hp0 b2 hb0 c0 c1 c2 c3 c4 c5
      go_wp2_with fail
      refine (HD.out _ hp2 hb2.size).mono ?_
      rintro e w3 ⟨rfl, hp3, m3⟩
      have hn3 := hn2.mod m3 (SF.type hp2.d hp2.r hn2 (by decide) (by decide) (by decide))
      have hx3 := hx2.mod m3 (SF.type hp2.d hp2.r hx2 (by decide) (by decide) (by decide))
      have hb3 := hb2.trans (m3.below (B := w.heap.size) hb2.size (SF.low hp2.d hp2.r))
      clear HD hn2 hx2 hp2 hb2 m3 q0 q1 q2 q3 q4 q5
      go_wp2_with fail
      refine (HG2.out _ hp3.d).mono ?_
      rintro e w4 ⟨rfl, b4⟩
      have hn4 := (hn3.mod (Mod.of_below b4) (fun h => h)).alloc (.cells #[.int .i64 z1, .int .i64 z2, .int .i64 z3, .int .i64 z4, .int .i64 z5] 23)
      have hx4 := (hx3.mod (Mod.of_below b4) (fun h => h)).alloc (.cells #[.int .i64 z1, .int .i64 z2, .int .i64 z3, .int .i64 z4, .int .i64 z5] 23)
      have hp4 := (hp3.quiet b4).quiet (alloc_below w4 (.cells #[.int .i64 z1, .int .i64 z2, .int .i64 z3, .int .i64 z4, .int .i64 z5] 23))
      have hb4 := (hb3.trans (b4.mono hb3.size))
      have hb4 := hb4.alloc hb4.size (.cells #[.int .i64 z1, .int .i64 z2, .int .i64 z3, .int .i64 z4, .int .i64 z5] 23)
      have q0 := hn4.cell 0
      have q1 := hn4.cell 1
      have q2 := hn4.cell 2
      have r0 := hx4.cell 0
      have r1 := hx4.cell 1
      have r2 := hx4.cell 2
      have r3 := hx4.cell 3
      have r4 := hx4.cell 4
      simp at q0 q1 q2 r0 r1 r2 r3 r4
      clear HG2 hn3 hx3 hp3 b4 hb3 hn4 hx4
      rcases HW.out with rfl | ⟨rfl, rfl, ⟨e1, e2, e3⟩ | ⟨e1, e2⟩⟩ | ⟨rfl, rfl, ⟨e1, e2, e3⟩ | ⟨e4, e5⟩⟩
      · clear HW
        go_wp2
        go_roundw
        case rel => exact ⟨k + 1, L', by omega, by go_num, hp4, hb4⟩
        case measure => simp [intOf]; omega
      · have d1 : (x1 == 5) = true := by simpa using e1
        have d2 : (x2 == p) = true := by simpa using e2
        have d3 : (x3 == s) = true := by simpa using e3
        clear HW e1 e2 e3
        go_wp2
        go_roundw
        case rel => exact ⟨k + 1, L', by omega, by go_num, hp4, hb4⟩
        case measure => simp [intOf]; omega
      · have d1 : (x1 == 5) = false := by simp; omega
        have d4 : (x1 == 7) = true := by simpa using e1
        have d2 : (x2 == p) = true := by simpa using e2
        clear HW e1 e2
        go_wp2
        go_roundw
        case rel => exact ⟨k + 1, L', by omega, by go_num, hp4, hb4⟩
        case measure => simp [intOf]; omega
      · have d1 : (x1 == 3) = true := by simpa using e1
        have d2 : (x2 == p) = true := by simpa using e2
        have d3 : (x3 == s) = true := by simpa using e3
        clear HW e1 e2 e3
        go_wp2
        all_goals
          go_roundw
          case rel => exact ⟨k + 1, L', by omega, by go_num, hp4, hb4⟩
          case measure => simp [intOf]; omega
      · injection e5 with g1 g2 g3 g4 g5
        subst g1 g2 g3 g4 g5
        clear HW e4
        go_wp2
        all_goals
          go_roundw
          case rel => exact ⟨k + 1, L', by omega, by go_num, hp4, hb4⟩
          case measure => simp [intOf]; omega
    · obtain rfl : k = l.length := by omega
      clear hc hp
      go_wp2_with fail
      refine (five_any _).mono ?_
      rintro e w2 ⟨rfl, b2⟩
      have b3 := hbel.trans (b2.mono hbel.size)
      clear b2 hbel
      go_wp2
      go_ret
      exact ⟨rfl, b3⟩
end Go.Proofs.Ytidmkdaegglepaa
