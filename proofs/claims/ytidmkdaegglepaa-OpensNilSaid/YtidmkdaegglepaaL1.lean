/- OpensNil, the walk. -/
import Derived.Test.YtidmkdaegglepaaOD
set_option linter.all false
namespace Go.Proofs.Ytidmkdaegglepaa
open Go.RowKit

set_option maxHeartbeats 12800000 in
set_option maxRecDepth 100000 in
theorem opensNil_go (a p t k o n : Int) (r : Bool) (f er : Int) (hr : rg (addD p k o) = r) (hf : f = 1 ∨ f = 7) (he : (r = true ∧ er = 7) ∨ (r = false ∧ er = 1))
    (hA : ∀ u, Calls Try.prog 49 #[.pointer none, .int .i64 p, .int .i64 k, .int .i64 o] u fun e w' => e = .returned (.tuple #[.int .i64 0, .int .i64 er]) ∧ Below u.heap.size u w')
    (hF : ∀ u, Calls Try.prog 51 #[.pointer none, .int .i64 p, .int .i64 n] u fun e w' => e = .returned (.int .i64 f) ∧ u = w') (w : World) :
    Calls Try.prog 12 #[.agg #[.int .i64 a, .int .i64 p, .int .i64 t, .int .i64 k, .int .i64 o, .int .i64 n]] w fun e w' => e = .returned (.bool true) ∧ Below w.heap.size w w' := by
  have hG := fun u => oget_none u (.pointer none) p t (fun v _ => oof_nil v p t)
  have hD := fun u => odup_none u (.pointer none) p t (oof_nil u p t)
  have hR := fun u => rright ⟨p, 0, k, o, 0⟩ u
  have hS := fun u => oseek_none u (.pointer none) p t n (hG u)
  have h2 := fun u => odup2_none u (.pointer none) p t n (oof_nil u p t)
  have hC := fun u => oclose_none u (.pointer none) p t (oof_nil u p t)
  have e1 : rg ⟨p, 0, k, o, 0⟩ = r := hr
  simp only [e1] at hR
  unfold da at hR hG
  simp only [dz] at hR hG
  have HA := Lib.hid hA
  have HF := Lib.hid hF
  have HG := Lib.hid hG
  have HD := Lib.hid hD
  have HR := Lib.hid hR
  have HS := Lib.hid hS
  have H2 := Lib.hid h2
  have HC := Lib.hid hC
  clear hA hF hG hD hR hS h2 hC hr e1
  have b0 := alloc_below w (.cells #[.int .i64 a, .int .i64 p, .int .i64 t, .int .i64 k, .int .i64 o, .int .i64 n] 67)
  have n0 := Blk.new w 67 #[.int .i64 a, .int .i64 p, .int .i64 t, .int .i64 k, .int .i64 o, .int .i64 n]
  rcases hf with rfl | rfl <;> rcases he with ⟨rfl, rfl⟩ | ⟨rfl, rfl⟩
  all_goals
    go_enter Try.func12, Try.ntmps12
    go_wp2_with fail
    refine (HA.out _).mono ?_
    rintro e w1 ⟨rfl, m1⟩
    have n1 := n0.mod (Mod.of_below m1) (fun h => h)
    have b1 := b0.trans (m1.mono b0.size)
    have q1 := n1.cell 1
    have q2 := n1.cell 2
    simp at q1 q2
    clear m1 n0 b0 HA
    go_wp2_with fail
    refine (HG.out _).mono ?_
    rintro e w2 ⟨rfl, m1⟩
    have m2 := m1.alloc m1.size (.cells #[.int .i64 0, .int .i64 0, .int .i64 0, .int .i64 0, .int .i64 0] 23)
    have n2 := n1.mod (Mod.of_below m2) (fun h => h)
    have b2 := b1.trans (m2.mono b1.size)
    clear q1 q2
    have q1 := n2.cell 1
    have q2 := n2.cell 2
    have q3 := n2.cell 3
    have q4 := n2.cell 4
    have q5 := n2.cell 5
    simp at q1 q2 q3 q4 q5
    clear m1 m2 n1 b1 HG
    go_wp2_with fail
    refine (HD.out _).mono ?_
    rintro e w3 ⟨rfl, rfl⟩
    clear HD
    go_wp2_with fail
    refine (HF.out _).mono ?_
    rintro e w4 ⟨rfl, rfl⟩
    clear HF
    go_wp2_with fail
    refine (HR.out _).mono ?_
    rintro e w5 ⟨rfl, m1⟩
    have n5 := n2.mod (Mod.of_below m1) (fun h => h)
    have b5 := b2.trans (m1.mono b2.size)
    clear q1 q2 q3 q4 q5
    have q1 := n5.cell 1
    have q2 := n5.cell 2
    have q3 := n5.cell 5
    simp at q1 q2 q3
    clear m1 n2 b2 HR
    go_wp2_with fail
    refine (HS.out _).mono ?_
    rintro e w6 ⟨rfl, m1⟩
    have n6 := n5.mod (Mod.of_below m1) (fun h => h)
    have b6 := b5.trans (m1.mono b5.size)
    clear q1 q2 q3
    have q1 := n6.cell 1
    have q2 := n6.cell 2
    have q3 := n6.cell 3
    have q4 := n6.cell 4
    have q5 := n6.cell 5
    simp at q1 q2 q3 q4 q5
    clear m1 n5 b5 HS
    go_wp2_with fail
    refine (H2.out _).mono ?_
    rintro e w7 ⟨rfl, rfl⟩
    clear H2
    go_wp2_with fail
    refine (HC.out _).mono ?_
    rintro e w7 ⟨rfl, rfl⟩
    clear HC
    go_wp2_with fail
    refine (odrop_nil _ p).mono ?_
    rintro e w8 ⟨rfl, rfl⟩
    go_wp2_with fail
    refine (orefs_nil _ k o).mono ?_
    rintro e w9 ⟨rfl, rfl⟩
    clear q1 q2 q3 q4 q5 n6
    go_wp2_with fail
    refine (oopens_nil _).mono ?_
    rintro e wa ⟨rfl, rfl⟩
    go_wp2_with fail
    refine (oslots_nil _).mono ?_
    rintro e wa ⟨rfl, rfl⟩
    go_wp2_with fail
    refine (nine_any _).mono ?_
    rintro e wb ⟨rfl, m1⟩
    have bb := b6.trans (m1.mono b6.size)
    clear m1 b6
    go_wp2
    go_ret
    exact ⟨rfl, bb⟩
theorem opensNil_any (a p t k o n : Int) (w : World) :
    Calls Try.prog 12 #[.agg #[.int .i64 a, .int .i64 p, .int .i64 t, .int .i64 k, .int .i64 o, .int .i64 n]] w fun e w' => e = .returned (.bool true) ∧ Below w.heap.size w w' := by
  have hF := fun u => ofork_nilA u p n
  cases hr : rg (addD p k o)
  · refine opensNil_go a p t k o n false _ 1 hr ?_ (.inr ⟨rfl, rfl⟩) (fun u => oadd_bad u _ p k o hr) hF w
    split
    · exact .inl rfl
    · exact .inr rfl
  · refine opensNil_go a p t k o n true _ 7 hr ?_ (.inl ⟨rfl, rfl⟩) (fun u => oadd_nil u p k o hr) hF w
    split
    · exact .inl rfl
    · exact .inr rfl
end Go.Proofs.Ytidmkdaegglepaa
