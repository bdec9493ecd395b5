/- Descriptors: New, Get, Add, Dup. -/
import Derived.Test.YtidmkdaegglepaaM4
set_option linter.all false
namespace Go.Proofs.Ytidmkdaegglepaa
open Go.RowKit

def gtE (L : List DE) (p s : Int) : Int := if atB L p s then 0 else 6
theorem blk0 (w : World) (T : TypeId) (cs : Array Value) : Blk (w.alloc (.cells cs T)) w.heap.size T cs := Blk.new w T cs
theorem set5 {w : World} {g : Nat} {T : TypeId} {a0 a1 a2 a3 a4 : Value} (h : Blk w g T #[a0, a1, a2, a3, a4]) (b0 b1 b2 b3 b4 : Value) :
    Blk (((((w.setCell ⟨g, 0, none⟩ b0).setCell ⟨g, 1, none⟩ b1).setCell ⟨g, 2, none⟩ b2).setCell ⟨g, 3, none⟩ b3).setCell ⟨g, 4, none⟩ b4) g T #[b0, b1, b2, b3, b4] :=
  ((((h.set_ 0 b0).set_ 1 b1).set_ 2 b2).set_ 3 b3).set_ 4 b4
theorem below5 {B : Nat} {w w1 : World} {g : Nat} (h : Below B w w1) (hg : B ≤ g) (b0 b1 b2 b3 b4 : Value) :
    Below B w (((((w1.setCell ⟨g, 0, none⟩ b0).setCell ⟨g, 1, none⟩ b1).setCell ⟨g, 2, none⟩ b2).setCell ⟨g, 3, none⟩ b3).setCell ⟨g, 4, none⟩ b4) :=
  ((((h.setCell (p := ⟨g, 0, none⟩) hg b0).setCell (p := ⟨g, 1, none⟩) hg b1).setCell (p := ⟨g, 2, none⟩) hg b2).setCell (p := ⟨g, 3, none⟩) hg b3).setCell (p := ⟨g, 4, none⟩) hg b4
set_option maxHeartbeats 1600000 in
theorem get_any (w : World) (q : Value) (L : List DE) (p s : Int) (h : DP w q L) :
    Calls Try.prog 24 #[q, .int .i64 p, .int .i64 s] w fun e w' => e = .returned (.tuple #[.agg (da (atV L p s)), .int .i64 (gtE L p s)]) ∧ Below w.heap.size w w' := by
  have b0 := alloc_below w (.cells (da dz) 23)
  have h0 := h.quiet b0
  have hN := Blk.new w 23 (da dz)
  have hA := fun u => at_any u q L p s
  unfold kc at hA
  have HA := Lib.hid hA
  clear h hA
  by_cases hat : atB L p s = true
  · have e1 : gtE L p s = 0 := by simp [gtE, hat]
    rw [e1]
    have HT := Lib.hid hat
    clear hat e1
    generalize atV L p s = x at *
    obtain ⟨y1, y2, y3, y4, y5⟩ := x
    unfold da at *
    simp only [dz] at *
    go_enter Try.func24, Try.ntmps24
    go_wp2_with fail
    refine (HA.out _ h0).mono ?_
    rintro e w1 ⟨rfl, b1⟩
    rw [HT.out]
    have hN1 := hN.mod (Mod.of_below b1) (fun h => h)
    have b2 := b0.trans (b1.mono b0.size)
    have hw1 : w.heap.size < w1.heap.size := hN1.lt
    have c0 := hN1.cell 0
    have c1 := hN1.cell 1
    have c2 := hN1.cell 2
    have c3 := hN1.cell 3
    have c4 := hN1.cell 4
    have f0 := hN1.frozen 0
    have f1 := hN1.frozen 1
    have f2 := hN1.frozen 2
    have f3 := hN1.frozen 3
    have f4 := hN1.frozen 4
    simp at c0 c1 c2 c3 c4
    clear h0 HA HT hN b1
    go_wp2
    exact res_cell2 rfl rfl ((set5 hN1 _ _ _ _ _).alloc _) Try.underlying23 (by kernel_rfl) rfl ⟨rfl, (below5 b2 (Nat.le_refl _) _ _ _ _ _).alloc (by simp; omega) _⟩
  · have hat' : atB L p s = false := by simpa using hat
    have hv : atV L p s = dz := by
      unfold atB at hat'
      have : look L p s = none := by simpa using hat'
      simp [atV, this]
    have e1 : gtE L p s = 6 := by simp [gtE, hat']
    rw [e1, hv]
    have HT := Lib.hid hat'
    have HV := Lib.hid hv
    clear hat hat' e1 hv
    unfold da at *
    simp only [dz] at *
    go_enter Try.func24, Try.ntmps24
    go_wp2_with fail
    refine (HA.out _ h0).mono ?_
    rintro e w1 ⟨rfl, b1⟩
    rw [HT.out, HV.out]
    have hN1 := hN.mod (Mod.of_below b1) (fun h => h)
    have b2 := b0.trans (b1.mono b0.size)
    have hw1 : w.heap.size < w1.heap.size := hN1.lt
    have c0 := hN1.cell 0
    have c1 := hN1.cell 1
    have c2 := hN1.cell 2
    have c3 := hN1.cell 3
    have c4 := hN1.cell 4
    have f0 := hN1.frozen 0
    have f1 := hN1.frozen 1
    have f2 := hN1.frozen 2
    have f3 := hN1.frozen 3
    have f4 := hN1.frozen 4
    simp at c0 c1 c2 c3 c4
    clear h0 HA HT hN b1
    go_wp2
    exact res_cell2 rfl rfl ((set5 hN1 _ _ _ _ _).alloc _) Try.underlying23 (by kernel_rfl) rfl ⟨rfl, (below5 b2 (Nat.le_refl _) _ _ _ _ _).alloc (by simp; omega) _⟩

theorem dnew (w : World) (B : Nat) (hB : B ≤ w.heap.size) :
    Calls Try.prog 18 #[] w fun e w' => ∃ b, e = .returned (.pointer (some ⟨b, 0, none⟩)) ∧ DT w' B b [] ∧ Below w.heap.size w w' := by
  have hg : (w.alloc (.map #[] 0)).heap[w.heap.size]? = some (.map #[] 0) := heap_alloc_new w _
  have hb := Blk.new (w.alloc (.map #[] 0)) 95 #[.map (some w.heap.size)]
  have bb := alloc_below w (.map #[] 0)
  have hd : DT ((w.alloc (.map #[] 0)).alloc (.cells #[.map (some w.heap.size)] 95)) B (w.alloc (.map #[] 0)).heap.size [] :=
    ⟨by simp; omega, w.heap.size, #[], 0, [], hb, (Below.heap_alloc _ _ _ (by simp)).trans hg, hB, rfl, List.Pairwise.nil, fun _ _ => rfl⟩
  have hbl := bb.alloc (by simp) (.cells #[.map (some w.heap.size)] 95)
  simp only [World.size_alloc] at hd
  have hmm := @run_makeMap Try.prog
  go_enter Try.func18, Try.ntmps18
  go_wp2
  go_ret
  exact ⟨_, rfl, hd, hbl⟩
end Go.Proofs.Ytidmkdaegglepaa
