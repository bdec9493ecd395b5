/- DescNil, the walk. -/
import Derived.Test.YtidmkdaegglepaaS8
set_option linter.all false
namespace Go.Proofs.Ytidmkdaegglepaa
open Go.RowKit

set_option maxHeartbeats 12800000 in
set_option maxRecDepth 100000 in
theorem descNil_go (a p t k o n : Int) (r : Bool) (f er : Int) (hr : rg (addD p k o) = r) (hf : f = 1 ∨ f = 7) (he : (r = true ∧ er = 7) ∨ (r = false ∧ er = 1))
    (hA : ∀ u, Calls Try.prog 27 #[.pointer none, .int .i64 p, .int .i64 k, .int .i64 o] u fun e w' => e = .returned (.tuple #[.int .i64 0, .int .i64 er]) ∧ Below u.heap.size u w')
    (hF : ∀ u, Calls Try.prog 26 #[.pointer none, .int .i64 p, .int .i64 n] u fun e w' => e = .returned (.int .i64 f) ∧ Below u.heap.size u w') (w : World) :
    Calls Try.prog 7 #[.agg #[.int .i64 a, .int .i64 p, .int .i64 t, .int .i64 k, .int .i64 o, .int .i64 n]] w fun e w' => e = .returned (.bool true) ∧ Below w.heap.size w w' := by
  have DPn : ∀ u, DP u (.pointer none) [] := fun u => .inl ⟨rfl, rfl⟩
  have hG := fun u => get_any u (.pointer none) [] p t (DPn u)
  have hD := fun u => dup_bad u (.pointer none) [] p t (DPn u) rfl
  have hR := fun u => rright ⟨p, 0, k, o, 0⟩ u
  have hS := fun u => seek_none u (.pointer none) [] p t n (DPn u) rfl
  have hC := fun u => close_none u (.pointer none) [] p t (DPn u) rfl
  have hX := fun u => drop_nilT u p
  have hN := fun u => refs_any u (.pointer none) [] k o (DPn u)
  have hL := fun u => list_any u (.pointer none) [] (DPn u)
  have e1 : rg ⟨p, 0, k, o, 0⟩ = r := hr
  have e2 : cntL (allL []) k o = 0 := rfl
  have e3 : atV [] p t = dz := rfl
  have e4 : gtE [] p t = 6 := rfl
  have e5 : (allL []).length = 0 := rfl
  simp only [e1] at hR
  simp only [e2] at hN
  simp only [e3, e4] at hG
  simp only [e5] at hL
  unfold da at hR hG
  simp only [dz] at hR hG
  have HA := Lib.hid hA
  have HF := Lib.hid hF
  have HG := Lib.hid hG
  have HD := Lib.hid hD
  have HR := Lib.hid hR
  have HS := Lib.hid hS
  have HC := Lib.hid hC
  have HX := Lib.hid hX
  have HN := Lib.hid hN
  have HL := Lib.hid hL
  clear hA hF hG hD hR hS hC hX hN hL hr e1 e2 e3 e4 e5 DPn
  have b0 := alloc_below w (.cells #[.int .i64 a, .int .i64 p, .int .i64 t, .int .i64 k, .int .i64 o, .int .i64 n] 37)
  have n0 := Blk.new w 37 #[.int .i64 a, .int .i64 p, .int .i64 t, .int .i64 k, .int .i64 o, .int .i64 n]
  rcases hf with rfl | rfl <;> rcases he with ⟨rfl, rfl⟩ | ⟨rfl, rfl⟩
  all_goals
    go_enter Try.func7, Try.ntmps7
    go_wp2_with fail
    refine (HA.out _).mono ?_
    rintro e w1 ⟨rfl, m1⟩
    have n1 := n0.mod (Mod.of_below m1) (fun h => h)
    have b1 := b0.trans (m1.mono b0.size)
    have q1 := n1.cell 1
    have q2 := n1.cell 2
    simp at q1 q2
    clear m1 n0 b0 HA
    go_wp2_with fail
    refine (HG.out _).mono ?_
    rintro e w2 ⟨rfl, m1⟩
    have m2 := m1.alloc m1.size (.cells #[.int .i64 0, .int .i64 0, .int .i64 0, .int .i64 0, .int .i64 0] 23)
    have n2 := n1.mod (Mod.of_below m2) (fun h => h)
    have b2 := b1.trans (m2.mono b1.size)
    clear q1 q2
    have q1 := n2.cell 1
    have q2 := n2.cell 2
    simp at q1 q2
    clear m1 m2 n1 b1 HG
    go_wp2_with fail
    refine (HD.out _).mono ?_
    rintro e w3 ⟨rfl, m1⟩
    have n3 := n2.mod (Mod.of_below m1) (fun h => h)
    have b3 := b2.trans (m1.mono b2.size)
    clear q1 q2
    have q1 := n3.cell 1
    have q2 := n3.cell 5
    simp at q1 q2
    clear m1 n2 b2 HD
    go_wp2_with fail
    refine (HF.out _).mono ?_
    rintro e w4 ⟨rfl, m1⟩
    have n4 := n3.mod (Mod.of_below m1) (fun h => h)
    have b4 := b3.trans (m1.mono b3.size)
    clear q1 q2
    have q1 := n4.cell 1
    have q2 := n4.cell 3
    have q3 := n4.cell 4
    simp at q1 q2 q3
    clear m1 n3 b3 HF
    go_wp2_with fail
    refine (HR.out _).mono ?_
    rintro e w5 ⟨rfl, m1⟩
    have n5 := n4.mod (Mod.of_below m1) (fun h => h)
    have b5 := b4.trans (m1.mono b4.size)
    clear q1 q2 q3
    have q1 := n5.cell 1
    have q2 := n5.cell 2
    have q3 := n5.cell 5
    simp at q1 q2 q3
    clear m1 n4 b4 HR
    go_wp2_with fail
    refine (HS.out _).mono ?_
    rintro e w6 ⟨rfl, m1⟩
    have n6 := n5.mod (Mod.of_below m1) (fun h => h)
    have b6 := b5.trans (m1.mono b5.size)
    clear q1 q2 q3
    have q1 := n6.cell 1
    have q2 := n6.cell 2
    simp at q1 q2
    clear m1 n5 b5 HS
    go_wp2_with fail
    refine (HC.out _).mono ?_
    rintro e w7 ⟨rfl, m1⟩
    have n7 := n6.mod (Mod.of_below m1) (fun h => h)
    have b7 := b6.trans (m1.mono b6.size)
    clear q1 q2
    have q1 := n7.cell 1
    simp at q1
    clear m1 n6 b6 HC
    go_wp2_with fail
    refine (HX.out _).mono ?_
    rintro e w8 ⟨rfl, m1⟩
    have n8 := n7.mod (Mod.of_below m1) (fun h => h)
    have b8 := b7.trans (m1.mono b7.size)
    clear q1
    have q1 := n8.cell 3
    have q2 := n8.cell 4
    simp at q1 q2
    clear m1 n7 b7 HX
    go_wp2_with fail
    refine (HN.out _).mono ?_
    rintro e w9 ⟨rfl, m1⟩
    have b9 := b8.trans (m1.mono b8.size)
    clear q1 q2 m1 n8 b8 HN
    go_wp2_with fail
    refine (HL.out _).mono ?_
    rintro e wa ⟨v, rfl, hown, m1⟩
    obtain ⟨a', c', rfl⟩ := len_of_own hown
    have ba := b9.trans (m1.mono b9.size)
    clear m1 b9 HL hown
    go_wp2_with fail
    refine (five_any _).mono ?_
    rintro e wb ⟨rfl, m1⟩
    have bb := ba.trans (m1.mono ba.size)
    clear m1 ba
    go_wp2
    go_ret
    exact ⟨rfl, bb⟩
theorem descNil_any (a p t k o n : Int) (w : World) :
    Calls Try.prog 7 #[.agg #[.int .i64 a, .int .i64 p, .int .i64 t, .int .i64 k, .int .i64 o, .int .i64 n]] w fun e w' => e = .returned (.bool true) ∧ Below w.heap.size w w' := by
  have hF := fun u => fork_nilA u p n
  cases hr : rg (addD p k o)
  · refine descNil_go a p t k o n false _ 1 hr ?_ (.inr ⟨rfl, rfl⟩) (fun u => add_bad u _ p k o hr) hF w
    split
    · exact .inl rfl
    · exact .inr rfl
  · refine descNil_go a p t k o n true _ 7 hr ?_ (.inl ⟨rfl, rfl⟩) (fun u => add_nil u p k o hr) hF w
    split
    · exact .inl rfl
    · exact .inr rfl
end Go.Proofs.Ytidmkdaegglepaa
