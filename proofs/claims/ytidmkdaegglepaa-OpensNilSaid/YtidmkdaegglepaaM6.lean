/- Descriptors: Add, Dup, Seek, Close. -/
import Derived.Test.YtidmkdaegglepaaM5
set_option linter.all false
namespace Go.Proofs.Ytidmkdaegglepaa
open Go.RowKit

def addD (p k o : Int) : DE := ⟨p, 0, k, o, 0⟩
set_option maxHeartbeats 1600000 in
theorem add_bad (w : World) (q : Value) (p k o : Int) (hr : rg (addD p k o) = false) :
    Calls Try.prog 27 #[q, .int .i64 p, .int .i64 k, .int .i64 o] w fun e w' => e = .returned (.tuple #[.int .i64 0, .int .i64 1]) ∧ Below w.heap.size w w' := by
  have b0 := alloc_below w (.cells (da (addD p k o)) 23)
  have hR := fun u => dright (addD p k o) u
  rw [hr] at hR
  have HR := Lib.hid hR
  clear hr hR
  unfold da addD at *
  simp only at *
  go_enter Try.func27, Try.ntmps27
  go_wp2_with fail
  refine (HR.out _).mono ?_
  rintro e w1 ⟨rfl, b1⟩
  have b2 := b0.trans (b1.mono b0.size)
  clear b0 b1 HR
  go_wp2
  go_ret2
  exact ⟨rfl, b2⟩
set_option maxHeartbeats 1600000 in
theorem add_nil (w : World) (p k o : Int) (hr : rg (addD p k o) = true) :
    Calls Try.prog 27 #[.pointer none, .int .i64 p, .int .i64 k, .int .i64 o] w fun e w' => e = .returned (.tuple #[.int .i64 0, .int .i64 7]) ∧ Below w.heap.size w w' := by
  have b0 := alloc_below w (.cells (da (addD p k o)) 23)
  have hR := fun u => dright (addD p k o) u
  rw [hr] at hR
  have HR := Lib.hid hR
  clear hr hR
  unfold da addD at *
  simp only at *
  go_enter Try.func27, Try.ntmps27
  go_wp2_with fail
  refine (HR.out _).mono ?_
  rintro e w1 ⟨rfl, b1⟩
  have b2 := b0.trans (b1.mono b0.size)
  clear b0 b1 HR
  go_wp2
  go_ret2
  exact ⟨rfl, b2⟩
def addE (L : List DE) (p k o : Int) : Int := if rg (addD p k o) then putE L (addD p k o) else 1
def addV (L : List DE) (p k o : Int) : Int := if rg (addD p k o) then putV L (addD p k o) else 0
def addL (L : List DE) (p k o : Int) : List DE := if rg (addD p k o) then putL L (addD p k o) else L
set_option maxHeartbeats 1600000 in
theorem add_dt (w : World) (B b : Nat) (L : List DE) (p k o : Int) (h : DT w B b L) :
    Calls Try.prog 27 #[.pointer (some ⟨b, 0, none⟩), .int .i64 p, .int .i64 k, .int .i64 o] w fun e w' => e = .returned (.tuple #[.int .i64 (addV L p k o), .int .i64 (addE L p k o)]) ∧ DT w' B b (addL L p k o) ∧ Mod (DO w B b) w w' := by
  by_cases hr : rg (addD p k o) = true
  · have b0 := alloc_below w (.cells (da (addD p k o)) 23)
    have hN := Blk.new w 23 (da (addD p k o))
    have h0 := h.quiet b0
    have hR := fun u => dright (addD p k o) u
    have hP := fun u hu => put_dt u B b L (addD p k o) hu
    simp only [addV, addE, addL, hr, if_true]
    rw [hr] at hR
    have HR := Lib.hid hR
    have HP := Lib.hid hP
    clear hr hR hP h
    generalize putV L (addD p k o) = v1 at *
    generalize putE L (addD p k o) = v2 at *
    generalize putL L (addD p k o) = L2 at *
    unfold da addD at *
    simp only at *
    go_enter Try.func27, Try.ntmps27
    go_wp2_with fail
    refine (HR.out _).mono ?_
    rintro e w1 ⟨rfl, b1⟩
    have b2 := b0.trans (b1.mono b0.size)
    have h1 := h0.quiet b1
    have hN1 := hN.mod (Mod.of_below b1) (fun h => h)
    have c0 := hN1.cell 0
    have c1 := hN1.cell 1
    have c2 := hN1.cell 2
    have c3 := hN1.cell 3
    have c4 := hN1.cell 4
    simp at c0 c1 c2 c3 c4
    clear b0 b1 HR h0 hN hN1
    go_wp2_with fail
    refine (HP.out _ h1).mono ?_
    rintro e w2 ⟨rfl, h2, m2⟩
    have m3 := mod_via b2 m2
    clear h1 HP m2
    go_wp2
    go_ret2
    exact ⟨rfl, h2, m3⟩
  · have hr' : rg (addD p k o) = false := by simpa using hr
    have e1 : addV L p k o = 0 := by simp [addV, hr']
    have e2 : addE L p k o = 1 := by simp [addE, hr']
    have e3 : addL L p k o = L := by simp [addL, hr']
    rw [e1, e2, e3]
    exact (add_bad w _ p k o hr').mono fun e w' ⟨h1, h2⟩ => ⟨h1, h.quiet h2, mod_q h2⟩

set_option maxHeartbeats 1600000 in
theorem dup_bad (w : World) (q : Value) (L : List DE) (p s : Int) (h : DP w q L) (hat : atB L p s = false) :
    Calls Try.prog 28 #[q, .int .i64 p, .int .i64 s] w fun e w' => e = .returned (.tuple #[.int .i64 0, .int .i64 6]) ∧ Below w.heap.size w w' := by
  have hA := at_any w q L p s h
  rw [hat] at hA
  unfold kc at hA
  have HA := Lib.hid hA
  clear hA hat h
  generalize atV L p s = x at *
  obtain ⟨y1, y2, y3, y4, y5⟩ := x
  unfold da at *
  simp only at *
  go_enter Try.func28, Try.ntmps28
  go_wp2_with fail
  refine HA.out.mono ?_
  rintro e w1 ⟨rfl, b1⟩
  clear HA
  go_wp2
  go_ret2
  exact ⟨rfl, b1.alloc b1.size _⟩
def dupE (L : List DE) (p s : Int) : Int := match look L p s with | some x => putE L x | none => 6
def dupV (L : List DE) (p s : Int) : Int := match look L p s with | some x => putV L x | none => 0
def dupL (L : List DE) (p s : Int) : List DE := match look L p s with | some x => putL L x | none => L
theorem atB_some {L : List DE} {p s : Int} {x : DE} (h : look L p s = some x) : atB L p s = true ∧ atV L p s = x := by simp [atB, atV, h]
theorem atB_none {L : List DE} {p s : Int} (h : look L p s = none) : atB L p s = false ∧ atV L p s = dz := by simp [atB, atV, h]
set_option maxHeartbeats 1600000 in
theorem dup_dt (w : World) (B b : Nat) (L : List DE) (p s : Int) (h : DT w B b L) :
    Calls Try.prog 28 #[.pointer (some ⟨b, 0, none⟩), .int .i64 p, .int .i64 s] w fun e w' => e = .returned (.tuple #[.int .i64 (dupV L p s), .int .i64 (dupE L p s)]) ∧ DT w' B b (dupL L p s) ∧ Mod (DO w B b) w w' := by
  rcases hx : look L p s with _ | x
  · have e1 : dupV L p s = 0 := by simp [dupV, hx]
    have e2 : dupE L p s = 6 := by simp [dupE, hx]
    have e3 : dupL L p s = L := by simp [dupL, hx]
    rw [e1, e2, e3]
    exact (dup_bad w _ L p s (.inr ⟨B, b, rfl, h⟩) (atB_none hx).1).mono fun e w' ⟨h1, h2⟩ => ⟨h1, h.quiet h2, mod_q h2⟩
  · have hA := at_dt w B b L p s h
    rw [(atB_some hx).1, (atB_some hx).2] at hA
    have e1 : dupV L p s = putV L x := by simp [dupV, hx]
    have e2 : dupE L p s = putE L x := by simp [dupE, hx]
    have e3 : dupL L p s = putL L x := by simp [dupL, hx]
    rw [e1, e2, e3]
    have hP := fun u hu => put_dt u B b L x hu
    unfold kc at hA
    have HA := Lib.hid hA
    have HP := Lib.hid hP
    clear hA hP hx e1 e2 e3
    generalize putV L x = v1 at *
    generalize putE L x = v2 at *
    generalize putL L x = L2 at *
    obtain ⟨y1, y2, y3, y4, y5⟩ := x
    unfold da at *
    simp only at *
    go_enter Try.func28, Try.ntmps28
    go_wp2_with fail
    refine HA.out.mono ?_
    rintro e w1 ⟨rfl, b1⟩
    have b2 := b1.alloc b1.size (.cells #[.int .i64 y1, .int .i64 y2, .int .i64 y3, .int .i64 y4, .int .i64 y5] 23)
    have h1 := (h.quiet b2)
    clear HA b1 h
    go_wp2_with fail
    refine (HP.out _ h1).mono ?_
    rintro e w2 ⟨rfl, h2, m2⟩
    have m3 := mod_via b2 m2
    clear h1 HP m2
    go_wp2
    go_ret2
    exact ⟨rfl, h2, m3⟩
end Go.Proofs.Ytidmkdaegglepaa
