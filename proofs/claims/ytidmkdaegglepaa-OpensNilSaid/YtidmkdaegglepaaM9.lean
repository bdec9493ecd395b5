/- Descriptors: Refs, 'five'. -/
import Derived.Test.YtidmkdaegglepaaM8
set_option linter.all false
namespace Go.Proofs.Ytidmkdaegglepaa
open Go.RowKit

def isOf (k o : Int) (x : DE) : Bool := x.kind == k && x.obj == o
def cntL (L : List DE) (k o : Int) : Nat := (L.filter (isOf k o)).length
theorem cnt_take {l : List DE} {j : Nat} {x : DE} (k o : Int) (h : l[j]? = some x) : cntL (l.take (j + 1)) k o = cntL (l.take j) k o + if isOf k o x then 1 else 0 := by
  unfold cntL
  rw [take_snoc_list h, List.filter_append, List.length_append]
  by_cases hx : isOf k o x = true <;> simp [hx]
theorem cnt_len (l : List DE) (k o : Int) : cntL l k o ≤ l.length := List.length_filter_le _ _
theorem all_len (L : List DE) : (allL L).length ≤ 36 := by
  have := preP_len L 6
  rw [preP_all] at this
  exact this
set_option maxHeartbeats 3200000 in
set_option maxRecDepth 100000 in
theorem refs_any (w : World) (q : Value) (L : List DE) (kd ob : Int) (h : DP w q L) :
    Calls Try.prog 22 #[q, .int .i64 kd, .int .i64 ob] w fun e w' => e = .returned (.int .i64 (cntL (allL L) kd ob : Nat)) ∧ Below w.heap.size w w' := by
  have hLst := list_any w q L h
  have hal := all_len L
  generalize allL L = l at *
  go_enter Try.func22, Try.ntmps22
  go_wp2_with fail
  refine hLst.mono ?_
  rintro e w1 ⟨v1, rfl, hown, b1⟩
  have hin := own_inp dc_len hown rfl (by unfold maxLen; omega)
  obtain ⟨_, a, cap, rfl, hc⟩ := hin
  have hsz1 := b1.size
  clear hown h hLst
  go_wp2_with fail
  go_loopw [7, 13] (fun v i wr => ∃ j : Nat, j ≤ l.length ∧ i = .int .i64 j ∧ v = .int .i64 (cntL (l.take j) kd ob : Nat) ∧ Below w1.heap.size w1 wr) (fun _ i _ => l.length - (intOf i).toNat)
  case atStart => exact ⟨0, by omega, rfl, rfl, Below.refl _ _⟩
  case round =>
    obtain ⟨j, hj, rfl, rfl, hbel⟩ := hrel
    have hsz := hbel.size
    have hcl := cnt_len (l.take j) kd ob
    rw [List.length_take] at hcl
    by_cases hlt : j < l.length
    · obtain ⟨b, off, rfl, hb, hcc⟩ := hc (by omega)
      have hx : l[j]? = some (l[j]'hlt) := List.getElem?_eq_getElem hlt
      generalize l[j]'hlt = x at hx
      have c0 := (hbel.cell (p := ⟨b, _, none⟩) hb).trans (hcc j hlt 0 (by omega))
      have c1 := (hbel.cell (p := ⟨b, _, none⟩) hb).trans (hcc j hlt 1 (by omega))
      have c2 := (hbel.cell (p := ⟨b, _, none⟩) hb).trans (hcc j hlt 2 (by omega))
      have c3 := (hbel.cell (p := ⟨b, _, none⟩) hb).trans (hcc j hlt 3 (by omega))
      have c4 := (hbel.cell (p := ⟨b, _, none⟩) hb).trans (hcc j hlt 4 (by omega))
      rw [atl_get hx (v := .int .i64 x.pid) rfl] at c0
      rw [atl_get hx (v := .int .i64 x.slot) rfl] at c1
      rw [atl_get hx (v := .int .i64 x.kind) rfl] at c2
      rw [atl_get hx (v := .int .i64 x.obj) rfl] at c3
      rw [atl_get hx (v := .int .i64 x.off) rfl] at c4
      simp only [Nat.add_zero] at c0
      have hct := cnt_take kd ob hx
      have HCT := Lib.hid hct
      clear hcc hc hct hx
      obtain ⟨y1, y2, y3, y4, y5⟩ := x
      simp only at c0 c1 c2 c3 c4
      unfold isOf at HCT
      simp only at HCT
      generalize cntL (l.take j) kd ob = n at *
      cases e1 : (y3 == kd)
      · rw [e1] at HCT
        simp only [Bool.false_and, Bool.false_eq_true, if_false, Nat.add_zero] at HCT
        go_wp2
        go_roundw
        case rel => exact ⟨j + 1, by omega, by go_num, by rw [HCT.out], hbel.alloc hsz _⟩
        case measure => simp [intOf]; omega
      · rw [e1] at HCT
        cases e2 : (y4 == ob)
        · rw [e2] at HCT
          simp only [Bool.and_false, Bool.false_eq_true, if_false, Nat.add_zero] at HCT
          go_wp2
          go_roundw
          case rel => exact ⟨j + 1, by omega, by go_num, by rw [HCT.out], hbel.alloc hsz _⟩
          case measure => simp [intOf]; omega
        · rw [e2] at HCT
          simp only [Bool.and_self, if_true] at HCT
          have hn : n + 1 ≤ 36 := by omega
          go_wp2
          go_roundw
          case rel => exact ⟨j + 1, by omega, by go_num, by rw [HCT.out]; go_num, hbel.alloc hsz _⟩
          case measure => simp [intOf]; omega
    · obtain rfl : j = l.length := by omega
      rw [List.take_length]
      go_wp2
      go_ret
      exact ⟨rfl, b1.trans (hbel.mono hsz1)⟩

def f1L : List DE := addL [] 1 2 2
def f2L : List DE := skX f1L 1 0 5
def f3L : List DE := dupL f2L 1 0
def f4L : List DE := skX f3L 1 1 9
set_option maxHeartbeats 3200000 in
set_option maxRecDepth 100000 in
theorem five_any (w : World) :
    Calls Try.prog 17 #[] w fun e w' => e = .returned (.bool true) ∧ Below w.heap.size w w' := by
  go_enter Try.func17, Try.ntmps17
  go_wp2_with fail
  refine (dnew w w.heap.size (Nat.le_refl _)).mono ?_
  rintro e w1 ⟨b, rfl, h1, b1⟩
  go_wp2_with fail
  refine (add_dt w1 _ b _ 1 2 2 h1).mono ?_
  rintro e w2 ⟨rfl, h2, m2⟩
  have b2 := b1.trans (h1.bl b1.size m2)
  have e1 : addV [] 1 2 2 = 0 := by decide
  have e2 : addE [] 1 2 2 = 0 := by decide
  rw [e1, e2]
  clear e1 e2
  go_wp2_with fail
  refine (seek_dt w2 _ b f1L 1 0 5 h2).mono ?_
  rintro e w3 ⟨rfl, h3, m3⟩
  have b3 := b2.trans (h2.bl b2.size m3)
  have e1 : skE f1L 1 0 5 = 0 := by decide
  rw [e1]
  clear e1
  go_wp2_with fail
  refine (dup_dt w3 _ b f2L 1 0 h3).mono ?_
  rintro e w4 ⟨rfl, h4, m4⟩
  have b4 := b3.trans (h3.bl b3.size m4)
  have e1 : dupV f2L 1 0 = 1 := by decide
  have e2 : dupE f2L 1 0 = 0 := by decide
  rw [e1, e2]
  clear e1 e2
  go_wp2_with fail
  refine (seek_dt w4 _ b f3L 1 1 9 h4).mono ?_
  rintro e w5 ⟨rfl, h5, m5⟩
  have b5 := b4.trans (h4.bl b4.size m5)
  have e1 : skE f3L 1 1 9 = 0 := by decide
  rw [e1]
  clear e1
  go_wp2_with fail
  refine (get_any w5 _ f4L 1 0 (.inr ⟨_, _, rfl, h5⟩)).mono ?_
  rintro e w6 ⟨rfl, m6⟩
  have h6 := h5.quiet m6
  have b6 := b5.trans (m6.mono b5.size)
  have e1 : atV f4L 1 0 = ⟨1, 0, 2, 2, 5⟩ := by rfl
  have e2 : gtE f4L 1 0 = 0 := by decide
  rw [e1, e2]
  clear e1 e2 h1 h2 h3 h4 h5 m2 m3 m4 m5 m6 b1 b2 b3 b4 b5
  unfold da
  simp only
  have hX := Blk.new w6 23 #[.int .i64 1, .int .i64 0, .int .i64 2, .int .i64 2, .int .i64 5]
  have b7 := b6.alloc b6.size (.cells #[.int .i64 1, .int .i64 0, .int .i64 2, .int .i64 2, .int .i64 5] 23)
  have h7 := h6.quiet (alloc_below w6 (.cells #[.int .i64 1, .int .i64 0, .int .i64 2, .int .i64 2, .int .i64 5] 23))
  clear h6 b6
  go_wp2_with fail
  refine (get_any _ _ f4L 1 1 (.inr ⟨_, _, rfl, h7⟩)).mono ?_
  rintro e w8 ⟨rfl, m8⟩
  have h8 := h7.quiet m8
  have b8 := b7.trans (m8.mono b7.size)
  have e1 : atV f4L 1 1 = ⟨1, 1, 2, 2, 9⟩ := by rfl
  have e2 : gtE f4L 1 1 = 0 := by decide
  rw [e1, e2]
  clear e1 e2
  unfold da
  simp only
  have hX8 := hX.mod (Mod.of_below m8) (fun h => h)
  have x4 : w8.cell? ⟨w6.heap.size, 4, none⟩ = some (.int .i64 5) := hX8.cell 4
  have lX := hX8.lt
  have h9 := h8.quiet (alloc_below w8 (.cells #[.int .i64 1, .int .i64 1, .int .i64 2, .int .i64 2, .int .i64 9] 23))
  have b9 := b8.alloc b8.size (.cells #[.int .i64 1, .int .i64 1, .int .i64 2, .int .i64 2, .int .i64 9] 23)
  clear h7 h8 m8 hX hX8 b7 b8
  have e3 : (cntL (allL f4L) 2 2 : Nat) = 2 := by decide
  have hR := refs_any _ _ f4L 2 2 (.inr ⟨_, _, rfl, h9⟩)
  rw [e3] at hR
  go_wp2_with (go_at_call 22; refine hR.mono ?_; rintro e w10 ⟨rfl, m10⟩)
  go_ret
  exact ⟨rfl, b9.trans (m10.mono b9.size)⟩
end Go.Proofs.Ytidmkdaegglepaa
