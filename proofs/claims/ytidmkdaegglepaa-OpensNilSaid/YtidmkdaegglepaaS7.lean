/- Both tables: 'does', part two. -/
import Derived.Test.YtidmkdaegglepaaS6
set_option linter.all false
namespace Go.Proofs.Ytidmkdaegglepaa
open Go.RowKit

set_option maxHeartbeats 6400000 in
set_option maxRecDepth 100000 in
theorem does_seek (w : World) (B b rb : Nat) (L : List DE) (p t k o n : Int) (h : PT w B b rb L) (hB : B ≤ w.heap.size) :
    Calls Try.prog 19 #[.pointer (some ⟨b, 0, none⟩), .pointer (some ⟨rb, 0, none⟩), .agg #[.int .i64 3, .int .i64 p, .int .i64 t, .int .i64 k, .int .i64 o, .int .i64 n]] w (DoesR w B b rb (skX L p t n)) := by
  have hA := fun u hu => seek_dt u B b L p t n hu
  have hR := fun u hu hBu => rseek u B rb L p t n hu h.good hBu
  have hg := h.good.sk p t n
  have ba := (alloc_below w (.cells #[.int .i64 3, .int .i64 p, .int .i64 t, .int .i64 k, .int .i64 o, .int .i64 n] 37)).drew
  have h0 := h.quiet ba
  have hn0 := (Blk.new w 37 #[.int .i64 3, .int .i64 p, .int .i64 t, .int .i64 k, .int .i64 o, .int .i64 n]).drew
  generalize skX L p t n = L' at *
  generalize skE L p t n = r at *
  have HA := Lib.hid hA
  have HR := Lib.hid hR
  clear hA hR h
  go_enter Try.func19, Try.ntmps19
  go_wp2_with fail
  go_region_held3 (fun w' => w'.cell? ⟨w.heap.size, 1, none⟩ = some (.int .i64 p) ∧ w'.cell? ⟨w.heap.size, 2, none⟩ = some (.int .i64 t) ∧ w'.cell? ⟨w.heap.size, 5, none⟩ = some (.int .i64 n))
    (first | exact ⟨hn0.cell 1, hn0.cell 2, hn0.cell 5⟩ | exact ⟨g1.cell 1, g1.cell 2, g1.cell 5⟩ | exact ⟨g2.cell 1, g2.cell 2, g2.cell 5⟩)
    (first
      | (go_at_call 29; refine (HA.out _ h0.d).mono ?_; rintro e w1 ⟨rfl, d1, m1⟩; have g1 := hn0.mod m1 (DO.type h0.d hn0 (by decide)); have r1 := PT.stepR h0.d h0.r m1; have s1 := m1.size)
      | (go_at_call 58; refine (HR.out _ r1 (Nat.le_trans hB (Nat.le_trans ba.size s1))).mono ?_; rintro e w2 ⟨rfl, r2, m2⟩; have g2 := g1.mod m2 (RF.type r1 g1 (by decide) (by decide)); have hf := h0.two hg m1 d1 m2 r2))
  all_goals
    go_wp2
    go_ret
    simp only [beq_self_eq_true]
    exact DoesR.via ba hf
set_option maxHeartbeats 3200000 in
set_option maxRecDepth 100000 in
theorem does_dup (w : World) (B b rb : Nat) (L : List DE) (p t k o n : Int) (h : PT w B b rb L) (hB : B ≤ w.heap.size) :
    Calls Try.prog 19 #[.pointer (some ⟨b, 0, none⟩), .pointer (some ⟨rb, 0, none⟩), .agg #[.int .i64 4, .int .i64 p, .int .i64 t, .int .i64 k, .int .i64 o, .int .i64 n]] w (DoesR w B b rb (dupL L p t)) := by
  have hA := fun u hu => dup_dt u B b L p t hu
  have hR := fun u hu hBu => rdup u B rb L p t hu (by have := h.good.len; omega) hBu
  have hg := h.good.dup p t
  have ba := alloc_below w (.cells #[.int .i64 4, .int .i64 p, .int .i64 t, .int .i64 k, .int .i64 o, .int .i64 n] 37)
  have h0 := h.quiet ba
  have hn0 := Blk.new w 37 #[.int .i64 4, .int .i64 p, .int .i64 t, .int .i64 k, .int .i64 o, .int .i64 n]
  generalize dupL L p t = L' at *
  generalize dupV L p t = v at *
  generalize dupE L p t = r at *
  have HA := Lib.hid hA
  have HR := Lib.hid hR
  clear hA hR h
  go_enter Try.func19, Try.ntmps19
  go_wp2_with fail
  refine (HA.out _ h0.d).mono ?_
  rintro e w1 ⟨rfl, d1, m1⟩
  have hn1 := hn0.mod m1 (DO.type h0.d hn0 (by decide))
  have r1 := PT.stepR h0.d h0.r m1
  have c1 := hn1.cell 1
  have c2 := hn1.cell 2
  simp at c1 c2
  have s1 := m1.size
  go_wp2_with fail
  refine (HR.out w1 r1 (Nat.le_trans hB (Nat.le_trans ba.size s1))).mono ?_
  rintro e w2 ⟨rfl, r2, m2⟩
  have hf := h0.two hg m1 d1 m2 r2
  clear c1 c2 HA HR h0 hn0 hn1 r1 d1 m1 m2 r2 s1
  go_wp2
  go_ret
  simp only [beq_self_eq_true]
  exact DoesR.via ba hf
set_option maxHeartbeats 6400000 in
set_option maxRecDepth 100000 in
theorem does_close (w : World) (B b rb : Nat) (L : List DE) (p t k o n : Int) (h : PT w B b rb L) (hB : B ≤ w.heap.size) :
    Calls Try.prog 19 #[.pointer (some ⟨b, 0, none⟩), .pointer (some ⟨rb, 0, none⟩), .agg #[.int .i64 5, .int .i64 p, .int .i64 t, .int .i64 k, .int .i64 o, .int .i64 n]] w (DoesR w B b rb (clL L p t)) := by
  have hA := fun u hu => close_dt u B b L p t hu
  have hR := fun u hu hBu => rclose2 u B rb L p t hu h.good hBu
  have hg := h.good.cl p t
  have ba := (alloc_below w (.cells #[.int .i64 5, .int .i64 p, .int .i64 t, .int .i64 k, .int .i64 o, .int .i64 n] 37)).drew
  have h0 := h.quiet ba
  have hn0 := (Blk.new w 37 #[.int .i64 5, .int .i64 p, .int .i64 t, .int .i64 k, .int .i64 o, .int .i64 n]).drew
  generalize clL L p t = L' at *
  generalize clE L p t = r at *
  have HA := Lib.hid hA
  have HR := Lib.hid hR
  clear hA hR h
  go_enter Try.func19, Try.ntmps19
  go_wp2_with fail
  go_region_held3 (fun w' => w'.cell? ⟨w.heap.size, 1, none⟩ = some (.int .i64 p) ∧ w'.cell? ⟨w.heap.size, 2, none⟩ = some (.int .i64 t))
    (first | exact ⟨hn0.cell 1, hn0.cell 2⟩ | exact ⟨g1.cell 1, g1.cell 2⟩ | exact ⟨g2.cell 1, g2.cell 2⟩)
    (first
      | (go_at_call 30; refine (HA.out _ h0.d).mono ?_; rintro e w1 ⟨rfl, d1, m1⟩; have g1 := hn0.mod m1 (DO.type h0.d hn0 (by decide)); have r1 := PT.stepR h0.d h0.r m1; have s1 := m1.size)
      | (go_at_call 60; refine (HR.out _ r1 (Nat.le_trans hB (Nat.le_trans ba.size s1))).mono ?_; rintro e w2 ⟨rfl, r2, m2⟩; have g2 := g1.mod m2 (RF.type r1 g1 (by decide) (by decide)); have hf := h0.two hg m1 d1 m2 r2))
  all_goals
    go_wp2
    go_ret
    simp only [beq_self_eq_true]
    exact DoesR.via ba hf
set_option maxHeartbeats 6400000 in
set_option maxRecDepth 100000 in
theorem does_fork (w : World) (B b rb : Nat) (L : List DE) (p t k o n : Int) (h : PT w B b rb L) (hB : B ≤ w.heap.size) :
    Calls Try.prog 19 #[.pointer (some ⟨b, 0, none⟩), .pointer (some ⟨rb, 0, none⟩), .agg #[.int .i64 6, .int .i64 p, .int .i64 t, .int .i64 k, .int .i64 o, .int .i64 n]] w (DoesR w B b rb (forkL L p n)) := by
  have hA := fun u hu => fork_dt u B b L p n hu h.good
  have hR := fun u hu hBu => rfork u B rb L p n hu h.good hBu
  have hg := h.good.fork p n
  have ba := (alloc_below w (.cells #[.int .i64 6, .int .i64 p, .int .i64 t, .int .i64 k, .int .i64 o, .int .i64 n] 37)).drew
  have h0 := h.quiet ba
  have hn0 := (Blk.new w 37 #[.int .i64 6, .int .i64 p, .int .i64 t, .int .i64 k, .int .i64 o, .int .i64 n]).drew
  generalize forkL L p n = L' at *
  generalize forkE L p n = r at *
  have HA := Lib.hid hA
  have HR := Lib.hid hR
  clear hA hR h
  go_enter Try.func19, Try.ntmps19
  go_wp2_with fail
  go_region_held3 (fun w' => w'.cell? ⟨w.heap.size, 1, none⟩ = some (.int .i64 p) ∧ w'.cell? ⟨w.heap.size, 5, none⟩ = some (.int .i64 n))
    (first | exact ⟨hn0.cell 1, hn0.cell 5⟩ | exact ⟨g1.cell 1, g1.cell 5⟩ | exact ⟨g2.cell 1, g2.cell 5⟩)
    (first
      | (go_at_call 26; refine (HA.out _ h0.d).mono ?_; rintro e w1 ⟨rfl, d1, m1⟩; have g1 := hn0.mod m1 (DO.type h0.d hn0 (by decide)); have r1 := PT.stepR h0.d h0.r m1; have s1 := m1.size)
      | (go_at_call 61; refine (HR.out _ r1 (Nat.le_trans hB (Nat.le_trans ba.size s1))).mono ?_; rintro e w2 ⟨rfl, r2, m2⟩; have g2 := g1.mod m2 (RF.type r1 g1 (by decide) (by decide)); have hf := h0.two hg m1 d1 m2 r2))
  all_goals
    go_wp2
    go_ret
    simp only [beq_self_eq_true]
    exact DoesR.via ba hf
set_option maxHeartbeats 6400000 in
set_option maxRecDepth 100000 in
theorem does_drop (w : World) (B b rb : Nat) (L : List DE) (p t k o n : Int) (h : PT w B b rb L) (hB : B ≤ w.heap.size) :
    Calls Try.prog 19 #[.pointer (some ⟨b, 0, none⟩), .pointer (some ⟨rb, 0, none⟩), .agg #[.int .i64 7, .int .i64 p, .int .i64 t, .int .i64 k, .int .i64 o, .int .i64 n]] w (DoesR w B b rb (dropL L p)) := by
  have hA := fun u hu => drop_dt u B b L p hu h.good
  have hR := fun u hu hBu => rdrop2 u B rb L p hu h.good hBu
  have hg := h.good.drop p
  have ba := (alloc_below w (.cells #[.int .i64 7, .int .i64 p, .int .i64 t, .int .i64 k, .int .i64 o, .int .i64 n] 37)).drew
  have h0 := h.quiet ba
  have hn0 := (Blk.new w 37 #[.int .i64 7, .int .i64 p, .int .i64 t, .int .i64 k, .int .i64 o, .int .i64 n]).drew
  generalize dropL L p = L' at *
  generalize ((ofL L p).length : Int) = r at *
  have HA := Lib.hid hA
  have HR := Lib.hid hR
  clear hA hR h
  go_enter Try.func19, Try.ntmps19
  go_wp2_with fail
  go_region_held3 (fun w' => w'.cell? ⟨w.heap.size, 1, none⟩ = some (.int .i64 p))
    (first | exact hn0.cell 1 | exact g1.cell 1 | exact g2.cell 1)
    (first
      | (go_at_call 31; refine (HA.out _ h0.d).mono ?_; rintro e w1 ⟨rfl, d1, m1⟩; have g1 := hn0.mod m1 (DO.type h0.d hn0 (by decide)); have r1 := PT.stepR h0.d h0.r m1; have s1 := m1.size)
      | (go_at_call 62; refine (HR.out _ r1 (Nat.le_trans hB (Nat.le_trans ba.size s1))).mono ?_; rintro e w2 ⟨rfl, r2, m2⟩; have g2 := g1.mod m2 (RF.type r1 g1 (by decide) (by decide)); have hf := h0.two hg m1 d1 m2 r2))
  all_goals
    go_wp2
    go_ret
    simp only [beq_self_eq_true]
    exact DoesR.via ba hf
theorem does_any (w : World) (B b rb : Nat) (L : List DE) (s : ST) (h : PT w B b rb L) (hB : B ≤ w.heap.size) :
    Calls Try.prog 19 #[.pointer (some ⟨b, 0, none⟩), .pointer (some ⟨rb, 0, none⟩), .agg (sa s)] w (DoesR w B b rb (stepL L s)) := by
  unfold stepL
  by_cases h0 : s.what = 0 ∨ s.what = 1 ∨ s.what = 2
  · rw [if_pos h0]
    exact does_add w B b rb L s.what s.pid s.slot s.kind s.obj s.n h hB h0
  · rw [if_neg h0]
    by_cases h3 : s.what = 3
    · rw [if_pos h3]
      unfold sa; rw [h3]
      exact does_seek w B b rb L s.pid s.slot s.kind s.obj s.n h hB
    · rw [if_neg h3]
      by_cases h4 : s.what = 4
      · rw [if_pos h4]
        unfold sa; rw [h4]
        exact does_dup w B b rb L s.pid s.slot s.kind s.obj s.n h hB
      · rw [if_neg h4]
        by_cases h5 : s.what = 5
        · rw [if_pos h5]
          unfold sa; rw [h5]
          exact does_close w B b rb L s.pid s.slot s.kind s.obj s.n h hB
        · rw [if_neg h5]
          by_cases h6 : s.what = 6
          · rw [if_pos h6]
            unfold sa; rw [h6]
            exact does_fork w B b rb L s.pid s.slot s.kind s.obj s.n h hB
          · rw [if_neg h6]
            by_cases h7 : s.what = 7
            · rw [if_pos h7]
              unfold sa; rw [h7]
              exact does_drop w B b rb L s.pid s.slot s.kind s.obj s.n h hB
            · rw [if_neg h7]
              exact does_none w B b rb L s h (by omega)
end Go.Proofs.Ytidmkdaegglepaa
