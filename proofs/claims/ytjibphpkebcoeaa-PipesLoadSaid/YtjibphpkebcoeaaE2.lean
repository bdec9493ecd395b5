/- 'imagoref22.Right'. -/
import Derived.Test.YtjibphpkebcoeaaC4
set_option linter.all false
namespace Go.Proofs.Ytjibphpkebcoeaa
open Go.RowKit

def RightAt (l : List Ent) (k : Nat) : Prop := ∀ x, l[k]? = some x → 0 ≤ x.1 ∧ x.1 ≤ 2 ∧ x.2.size ≤ 16 ∧ ∀ (i : Nat) (y : Ent), i < k → l[i]? = some y → y.1 ≠ x.1
def RightP (l : List Ent) : Prop := ∀ k, RightAt l k

set_option maxHeartbeats 3200000 in
set_option maxRecDepth 100000 in
theorem right_any (l : List Ent) (v : Value) (w : World) (hin : Inp w w.heap.size v l.length 2 (atl ec l)) (hl : l.length ≤ 1000) (hcp : ∀ a c, v = .slice a l.length c → l.length ≤ c ∧ c ≤ maxLen) :
    Calls Try.prog 38 #[v] w fun e w' => ((RightP l ∧ e = .returned (.bool true)) ∨ (¬ RightP l ∧ e = .returned (.bool false))) ∧ Below w.heap.size w w' := by
  obtain ⟨_, a, cap, rfl, hc⟩ := hin
  obtain ⟨hcap, hcap2⟩ := hcp _ _ rfl
  unfold maxLen at hcap2
  clear hcp
  go_enter Try.func38, Try.ntmps38
  go_wp2_with fail
  go_loopw [9] (fun i wr => ∃ (k : Nat), k ≤ l.length ∧ i = .int .i64 k ∧ Hid (∀ j, j < k → RightAt l j) ∧ Below w.heap.size w wr) (fun i _ => l.length - (intOf i).toNat)
  case atStart => exact ⟨0, by omega, rfl, fun i hi => absurd hi (by omega), Below.refl _ _⟩
  case round =>
    obtain ⟨k, hk, rfl, hrt, hbel⟩ := hrel
    have hsz := hbel.size
    by_cases hlt : k < l.length
    · obtain ⟨b, off, rfl, hb, hcl⟩ := hc (by omega)
      have hx : l[k]? = some (l[k]'hlt) := List.getElem?_eq_getElem hlt
      generalize l[k]'hlt = x at hx
      have c0 := (hbel.cell (p := ⟨b, _, none⟩) hb).trans (hcl k hlt 0 (by omega))
      have c1 := (hbel.cell (p := ⟨b, _, none⟩) hb).trans (hcl k hlt 1 (by omega))
      rw [atl_get hx (v := .int .i64 x.1) rfl] at c0
      rw [atl_get hx (v := .string x.2) rfl] at c1
      simp only [Nat.add_zero] at c0
      have HCL := Lib.hid hcl
      clear hcl hc
      obtain ⟨id, d⟩ := x
      simp only at c0 c1
      have HX := Lib.hid hx
      have hb1 := hbel.alloc hsz (.cells #[.int .i64 id, .string d] 75)
      clear hx
      by_cases hid : id < 0 ∨ 2 < id ∨ 16 < d.size
      · have hbad : ¬ RightP l := fun h => by
          obtain ⟨h1, h2, h3, _⟩ := h k _ HX.out
          simp only at h1 h2 h3
          omega
        have HBad := Lib.hid hbad
        clear hbad
        rcases hid with h | h | h
        · have e1 : decide (id < 0) = true := by simpa using h
          clear h
          go_wp2
          go_ret
          exact ⟨.inr ⟨HBad.out, rfl⟩, hb1⟩
        · have e1 : decide (id < 0) = false := by simp; omega
          have e2 : decide (2 < id) = true := by simpa using h
          clear h
          go_wp2
          go_ret
          exact ⟨.inr ⟨HBad.out, rfl⟩, hb1⟩
        · by_cases h1 : id < 0
          · have e1 : decide (id < 0) = true := by simpa using h1
            clear h
            go_wp2
            go_ret
            exact ⟨.inr ⟨HBad.out, rfl⟩, hb1⟩
          by_cases h2 : 2 < id
          · have e1 : decide (id < 0) = false := by simp; omega
            have e2 : decide (2 < id) = true := by simpa using h2
            clear h
            go_wp2
            go_ret
            exact ⟨.inr ⟨HBad.out, rfl⟩, hb1⟩
          have e1 : decide (id < 0) = false := by simp; omega
          have e2 : decide (2 < id) = false := by simp; omega
          have e3 : decide (16 < (d.size : Int)) = true := by simp; omega
          clear h
          go_wp2
          go_ret
          exact ⟨.inr ⟨HBad.out, rfl⟩, hb1⟩
      · have e1 : decide (id < 0) = false := by simp; omega
        have e2 : decide (2 < id) = false := by simp; omega
        have e3 : decide (16 < (d.size : Int)) = false := by simp; omega
        have hid' : 0 ≤ id ∧ id ≤ 2 ∧ d.size ≤ 16 := by omega
        have HI := Lib.hid hid'
        have hq : Blk (wr.alloc (.cells #[.int .i64 id, .string d] 75)) wr.heap.size 75 _ := Blk.new _ _ _
        have hkc : (k : Int) ≤ (cap : Int) := by omega
        clear hid hid' hbel
        go_wp2_with fail
        have hq0 := hq.cell 0
        have hNl := hq.lt
        generalize wr.alloc (Obj.cells #[Value.int IntKind.i64 id, Value.string d] 75) = wo at *
        generalize wr.heap.size = N at *
        clear hq c0 c1
        go_loopw [32] (fun i wi => ∃ (m : Nat), m ≤ k ∧ i = .int .i64 m ∧ Hid (∀ (j : Nat) (y : Ent), j < m → l[j]? = some y → y.1 ≠ id) ∧ Below wo.heap.size wo wi) (fun i _ => k - (intOf i).toNat)
        case atStart => exact ⟨0, by omega, rfl, fun j y hj => absurd hj (by omega), Below.refl _ _⟩
        case round =>
          obtain ⟨m, hm, rfl, hne, hbi⟩ := hrel
          have hszi := hbi.size
          have hlt2 := hb1.size
          by_cases hmk : m < k
          · have hy : l[m]? = some (l[m]'(by omega)) := List.getElem?_eq_getElem (by omega)
            generalize l[m]'(by omega) = y at hy
            have hb2 := hb1.trans (hbi.mono hb1.size)
            have d0 := (hb2.cell (p := ⟨b, _, none⟩) hb).trans (HCL.out m (by omega) 0 (by omega))
            have d1 := (hb2.cell (p := ⟨b, _, none⟩) hb).trans (HCL.out m (by omega) 1 (by omega))
            have q0 := (hbi.cell (p := ⟨N, 0, none⟩) hNl).trans hq0
            have hbi2 := hbi.alloc hszi (.cells (ec y).toArray 75)
            have hN2 : N < wr.heap.size := by omega
            rw [atl_get hy (v := .int .i64 y.1) rfl] at d0
            rw [atl_get hy (v := .string y.2) rfl] at d1
            simp only [Nat.add_zero] at d0
            simp at q0
            have HY := Lib.hid hy
            have hmi : (m : Int) < (k : Int) := by omega
            clear hy hb2 hbi hq0
            by_cases he : y.1 = id
            · have hbad : ¬ RightP l := fun h => by
                obtain ⟨_, _, _, h4⟩ := h k _ HX.out
                exact h4 m y hmk HY.out he
              have HBad := Lib.hid hbad
              have e4 : (y.1 == id) = true := by simpa using he
              have hbF := hb1.trans (hbi2.mono hb1.size)
              clear he hbad hbi2 hb1
              go_wp2
              go_ret
              exact ⟨.inr ⟨HBad.out, rfl⟩, hbF⟩
            · have e4 : (y.1 == id) = false := by simpa using he
              have HE := Lib.hid he
              clear he hb1
              go_wp2
              go_roundw
              case rel =>
                refine ⟨m + 1, by omega, by go_num, ?_, hbi2⟩
                intro j z hj hz
                rcases Nat.lt_or_ge j m with h1 | h1
                · exact hne j z h1 hz
                · obtain rfl : j = m := by omega
                  rw [HY.out] at hz
                  cases hz
                  exact HE.out
              case measure => simp [intOf]; omega
          · obtain rfl : m = k := by omega
            have hra : RightAt l m := fun x hx => by
              rw [HX.out] at hx
              cases hx
              exact ⟨HI.out.1, HI.out.2.1, HI.out.2.2, hne⟩
            have HRA := Lib.hid hra
            have hbF := hb1.trans (hbi.mono hb1.size)
            clear hra hne hb1 hbi hq0
            go_wp2
            go_roundw
            case rel =>
              refine ⟨m + 1, by omega, by go_num, ?_, hbF⟩
              intro j hj
              rcases Nat.lt_or_ge j m with h1 | h1
              · exact hrt j h1
              · obtain rfl : j = m := by omega
                exact HRA.out
            case measure => simp [intOf]; omega
    · obtain rfl : k = l.length := by omega
      have hr : RightP l := fun j => by
        by_cases hj : j < l.length
        · exact hrt.out j hj
        · intro x hx
          have := (List.getElem?_eq_some_iff.1 hx).1
          omega
      have HR := Lib.hid hr
      clear hc hr hrt
      go_wp2
      go_ret
      exact ⟨.inl ⟨HR.out, rfl⟩, hbel⟩
end Go.Proofs.Ytjibphpkebcoeaa
