/- Open objects: words; process, within, first. -/
import Derived.Test.YtidmkdaegglepaaS9
import Derived.Deep.MidRow
import Derived.LaidEql
import Derived.Laws.Pointers
set_option linter.all false
namespace Go.Proofs.Ytidmkdaegglepaa
open Go.RowKit

theorem oprocess_any (p : Int) (w : World) : Calls Try.prog 80 #[.int .i64 p] w fun e w' => e = .returned (.bool (procB p)) ∧ w = w' := by
  unfold procB
  by_cases h : 1 ≤ p
  · have e0 : decide (1 ≤ p) = true := by simpa using h
    rw [e0, Bool.true_and]
    go_enter Try.func80, Try.ntmps80
    go_wp2
    go_ret
    exact ⟨rfl, rfl⟩
  · have e0 : decide (1 ≤ p) = false := by simpa using h
    rw [e0, Bool.false_and]
    go_enter Try.func80, Try.ntmps80
    go_wp2
    go_ret
    exact ⟨rfl, rfl⟩
theorem owithin_any (n m : Int) (w : World) : Calls Try.prog 82 #[.int .i64 n, .int .i64 m] w fun e w' => e = .returned (.bool (withB n m)) ∧ w = w' := by
  unfold withB
  by_cases h : 0 ≤ n
  · have e0 : decide (0 ≤ n) = true := by simpa using h
    rw [e0, Bool.true_and]
    go_enter Try.func82, Try.ntmps82
    go_wp2
    go_ret
    exact ⟨rfl, rfl⟩
  · have e0 : decide (0 ≤ n) = false := by simpa using h
    rw [e0, Bool.false_and]
    go_enter Try.func82, Try.ntmps82
    go_wp2
    go_ret
    exact ⟨rfl, rfl⟩
/-- A pointer to a block's head, or nil. -/
def pq : Option Nat → Value
  | none => .pointer none
  | some g => .pointer (some ⟨g, 0, none⟩)
/-- An object's block, where the pointer is one. -/
def PB (w : World) (x : Option Nat) : Prop := ∀ g, x = some g → ∃ cs, Blk w g 114 cs
theorem PB.none (w : World) : PB w none := fun g h => by cases h
theorem ptr_eqd (d : Nat) (x y : Option Nat) (w : World) (hx : PB w x) (hy : PB w y) : (Op.equalIn (d + 1) 106 (pq x) (pq y)).run Try.prog w = .ok (x == y) w := by
  have u : Try.prog.underlying 106 = some (.pointer 114) := by kernel_rfl
  have s : (sizeOf 114).run Try.prog w = .ok 4 w := by kernel_rfl
  cases x with
  | none =>
    cases y with
    | none => unfold pq; simp [Op.equalIn, run_underlying u]
    | some h => unfold pq; simp [Op.equalIn, run_underlying u]
  | some g =>
    cases y with
    | none => unfold pq; simp [Op.equalIn, run_underlying u]
    | some h =>
      unfold pq
      simp only [Op.equalIn, Sem.run_bind, run_underlying u, Result.andThen_ok, s]
      by_cases e : g = h
      · subst e
        simp [run_sameAddr_same]
      · obtain ⟨ca, ha⟩ := hx g rfl
        obtain ⟨cb, hb⟩ := hy h rfl
        have := run_sameAddr_other (P := Try.prog) (w := w) (a := ⟨g, 0, Option.none⟩) (b := ⟨h, 0, Option.none⟩) (fun h => e (by cases h; rfl)) ha hb
        simp [this, e]
theorem ptr_eqb (x y : Option Nat) (w : World) (hx : PB w x) (hy : PB w y) : (Op.equal 106 (pq x) (pq y)).run Try.prog w = .ok (x == y) w := ptr_eqd 9999 x y w hx hy
theorem ptr_eql (x y : Option Nat) (w : World) (hx : PB w x) (hy : PB w y) : (binOp .eql 106 (pq x) (pq y)).run Try.prog w = .ok (.bool (x == y)) w := by
  have h := ptr_eqb x y w hx hy
  cases x <;> cases y <;> unfold pq at * <;> simp only [binOp] <;> simp [h]
theorem guard_pq (op : BinOp) (t : TypeId) (x y : Operand) (a b : Option Nat) : eqGuard op t x y (pq a) (pq b) = pure () := by
  cases a <;> cases b <;> unfold pq eqGuard <;> simp
theorem guard_pq_nil (op : BinOp) (t : TypeId) (x y : Operand) (a : Option Nat) : eqGuard op t x y (pq a) (.pointer none) = pure () := guard_pq op t x y a none
theorem eql_pq_nil (a : Option Nat) (w : World) : (binOp .eql 106 (pq a) (.pointer none)).run Try.prog w = .ok (.bool a.isNone) w := by
  have := ptr_eql a none w
  cases a with
  | none => exact ptr_eql none none w (PB.none w) (PB.none w)
  | some g =>
    have h := run_eql_pointer_nil (P := Try.prog) w 106 (some ⟨g, 0, none⟩) (by kernel_rfl)
    exact h
theorem neq_pq_nil (a : Option Nat) (w : World) : (binOp .neq 106 (pq a) (.pointer none)).run Try.prog w = .ok (.bool a.isSome) w := by
  cases a with
  | none => exact run_neq_pointer_nil (P := Try.prog) w 106 none (by kernel_rfl)
  | some g => exact run_neq_pointer_nil (P := Try.prog) w 106 (some ⟨g, 0, none⟩) (by kernel_rfl)
attribute [local go_sem ↓] guard_pq guard_pq_nil eql_pq_nil neq_pq_nil
def firstI (f : Nat → Option Nat) (n : Nat) (x : Option Nat) : Int := match (List.range n).find? (fun j => f j == x) with | some j => (j : Int) | none => -1
theorem first_at {f : Nat → Option Nat} {n j : Nat} {x : Option Nat} (hj : j < n) (h : f j = x) (hb : ∀ i, i < j → f i ≠ x) : firstI f n x = j := by
  have : (List.range n).find? (fun j => f j == x) = some j := by
    rw [List.find?_range_eq_some]
    exact ⟨by simp [h], by simpa using hj, fun i hi => by simpa using hb i hi⟩
  rw [firstI, this]
theorem first_no {f : Nat → Option Nat} {n : Nat} {x : Option Nat} (h : ∀ i, i < n → f i ≠ x) : firstI f n x = -1 := by
  have : (List.range n).find? (fun j => f j == x) = none := by
    rw [List.find?_range_eq_none]
    exact fun i hi => by simpa using h i hi
  rw [firstI, this]
theorem first_cases (f : Nat → Option Nat) (n : Nat) (x : Option Nat) : (firstI f n x = -1 ∧ ∀ i, i < n → f i ≠ x) ∨ ∃ j, j < n ∧ firstI f n x = (j : Int) ∧ f j = x ∧ ∀ i, i < j → f i ≠ x := by
  rcases h : (List.range n).find? (fun j => f j == x) with _ | j
  · refine .inl ⟨by rw [firstI, h], ?_⟩
    rw [List.find?_range_eq_none] at h
    exact fun i hi => by simpa using h i hi
  · refine .inr ⟨j, ?_⟩
    have h2 := h
    rw [List.find?_range_eq_some] at h2
    exact ⟨by simpa using h2.2.1, by rw [firstI, h], by simpa using h2.1, fun i hi => by simpa using h2.2.2 i hi⟩
set_option maxHeartbeats 3200000 in
set_option maxRecDepth 100000 in
theorem first_any (w : World) (b off n cap : Nat) (f : Nat → Option Nat) (x : Option Nat) (hn : n ≤ 100) (hc : ∀ j, j < n → w.cell? ⟨b, off + j, none⟩ = some (pq (f j))) (hx : PB w x) (hf : ∀ j, j < n → PB w (f j)) :
    Calls Try.prog 76 #[.slice (some ⟨b, off, none⟩) n cap, pq x] w fun e w' => e = .returned (.int .i64 (firstI f n x)) ∧ w = w' := by
  have hE := fun j (hj : j < n) => ptr_eql x (f j) w hx (hf j hj)
  have HE := Lib.hid hE
  clear hE hf
  go_enter Try.func76, Try.ntmps76
  go_wp2_with fail
  go_loopw [9] (fun i wr => ∃ k : Nat, k ≤ n ∧ i = .int .i64 k ∧ wr = w ∧ Hid (∀ i, i < k → f i ≠ x)) (fun i _ => n - (intOf i).toNat)
  case atStart => exact ⟨0, by omega, rfl, rfl, fun i hi => absurd hi (by omega)⟩
  case round =>
    obtain ⟨k, hk, rfl, rfl, hno⟩ := hrel
    by_cases hlt : k < n
    · have c0 := hc k hlt
      have E := HE.out k hlt
      by_cases he : f k = x
      · have hfi := first_at hlt he hno.out
        have HF := Lib.hid hfi
        clear hfi hc
        rw [he, beq_self_eq_true] at E
        rw [he] at c0
        clear he
        go_wp2
        go_ret
        rw [HF.out]
        exact ⟨rfl, rfl⟩
      · have hno2 : ∀ i, i < k + 1 → f i ≠ x := by
          intro i hi
          rcases Nat.lt_or_ge i k with h1 | h1
          · exact hno.out i h1
          · obtain rfl : i = k := by omega
            exact he
        have HN := Lib.hid hno2
        rw [show (x == f k) = false from by simpa using fun h => he h.symm] at E
        clear hno2 hno hc he
        go_wp2
        go_roundw
        case rel => exact ⟨k + 1, by omega, by go_num, (by first | trivial | rfl), HN⟩
        case measure => simp [intOf]; omega
    · obtain rfl : k = n := by omega
      have hfi := first_no hno.out
      have HF := Lib.hid hfi
      clear hfi hc hno
      go_wp2
      go_ret
      rw [HF.out]
      exact ⟨rfl, rfl⟩
end Go.Proofs.Ytidmkdaegglepaa
