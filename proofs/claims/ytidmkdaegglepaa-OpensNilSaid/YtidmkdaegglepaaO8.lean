/- Open objects: New, has, Fork, Drop. -/
import Derived.Test.YtidmkdaegglepaaO7
set_option linter.all false
namespace Go.Proofs.Ytidmkdaegglepaa
open Go.RowKit

attribute [local go_sem ↓] guard_pq guard_pq_nil eql_pq_nil neq_pq_nil
def S0 : OS := ⟨fun _ => none, fun _ => none⟩
theorem tab0 (ad : Nat → Nat) : tab (tf S0.sl S0.ob ad) = List.replicate 78 (.pointer none) := by
  have : tab (tf S0.sl S0.ob ad) = tab (fun _ => none) := tab_congr fun i hi => by
    unfold tf S0
    split <;> rfl
  rw [this]
  rfl
theorem ot_new (w : World) (B : Nat) (hB : B ≤ w.heap.size) : OW (w.alloc (.cells (List.replicate 78 (.pointer none)).toArray 111)) B w.heap.size S0 (fun _ => 0) :=
  ⟨hB, (by rw [tab0]; exact Blk.new w 111 _), (fun d o _ h => by cases h), (fun d e o u _ _ h => by cases h), (fun i d _ h => by cases h), (fun _ _ => rfl)⟩
set_option maxHeartbeats 3200000 in
set_option maxRecDepth 100000 in
theorem onew (w : World) (B : Nat) (hB : B ≤ w.heap.size) :
    Calls Try.prog 34 #[] w fun e w' => ∃ b ad, e = .returned (.pointer (some ⟨b, 0, none⟩)) ∧ OW w' B b S0 ad ∧ Below w.heap.size w w' := by
  have h := ot_new w B hB
  have b0 := alloc_below w (.cells (List.replicate 78 (.pointer none)).toArray 111)
  have HH := Lib.hid (And.intro h b0)
  clear h b0
  go_enter Try.func34, Try.ntmps34
  go_wp2
  go_ret
  exact ⟨_, _, rfl, HH.out.1, HH.out.2⟩
theorem idx1 {t n : Nat} (h : Try.prog.underlying t = some (.array n 106)) (cs : Array Value) {j : Nat} (hj : j < n) {v : Value} (hv : cs[j]? = some v) (w : World) :
    (Instr.index t (.agg cs) (.int .i64 (j : Int))).run Try.prog w = .ok v w := by
  have a : (isAgg 106).run Try.prog w = .ok false w := by kernel_rfl
  have s : (sizeOf 106).run Try.prog w = .ok 1 w := by kernel_rfl
  have hn : (0 : Int) ≤ (j : Int) ∧ (j : Int) < (n : Int) := by omega
  have hn2 : ¬ n ≤ j := by omega
  simp [Instr.index, run_underlying h, asIntOf, hn, hn2, part, a, s, hv, Sem.run_bind]
def hasB (sl : Nat → Option Nat) (p : Nat) : Bool := (List.range 6).any fun j => (sl (p * 6 + j)).isSome
theorem has_yes {sl : Nat → Option Nat} {p j : Nat} (hj : j < 6) (h : (sl (p * 6 + j)).isSome = true) : hasB sl p = true := by
  unfold hasB
  rw [List.any_eq_true]
  exact ⟨j, by simpa using hj, h⟩
theorem has_no {sl : Nat → Option Nat} {p : Nat} (h : ∀ j, j < 6 → sl (p * 6 + j) = none) : hasB sl p = false := by
  unfold hasB
  rw [List.any_eq_false]
  intro j hj
  rw [h j (by simpa using hj)]
  simp
theorem has_none {sl : Nat → Option Nat} {p : Nat} (h : hasB sl p = false) : ∀ j, j < 6 → sl (p * 6 + j) = none := by
  intro j hj
  rcases e : sl (p * 6 + j) with _ | d
  · rfl
  · rw [has_yes hj (by rw [e]; rfl)] at h
    cases h
def row6 (f : Nat → Option Nat) : Array Value := #[pq (f 0), pq (f 1), pq (f 2), pq (f 3), pq (f 4), pq (f 5)]
theorem row6_get (f : Nat → Option Nat) {j : Nat} (h : j < 6) : (row6 f)[j]? = some (pq (f j)) := by
  match j, h with
  | 0, _ => rfl
  | 1, _ => rfl
  | 2, _ => rfl
  | 3, _ => rfl
  | 4, _ => rfl
  | 5, _ => rfl
theorem Try.und107 : Try.prog.underlying 107 = some (.array 6 106) := by kernel_rfl
theorem slot_tf {sl : Nat → Option Nat} {ob : Nat → Option OB} {ad : Nat → Nat} {i : Nat} (h : i < 42) : tf sl ob ad i = (sl i).map ad := by unfold tf; rw [if_pos h]
set_option maxHeartbeats 3200000 in
set_option maxRecDepth 100000 in
theorem ohas_any (w : World) (B b : Nat) (S : OS) (ad : Nat → Nat) (p : Nat) (h : OW w B b S ad) (hp : p ≤ 6) :
    Calls Try.prog 81 #[.pointer (some ⟨b, 0, none⟩), .int .i64 (p : Int)] w fun e w' => e = .returned (.bool (hasB S.sl p)) ∧ w = w' := by
  have hc : ∀ j, j < 6 → w.cell? ⟨b, p * 6 + j, none⟩ = some (pq ((S.sl (p * 6 + j)).map ad)) := fun j hj => by
    have := h.cell (i := p * 6 + j) (by omega)
    rwa [slot_tf (by omega)] at this
  have c0 := hc 0 (by omega)
  have c1 := hc 1 (by omega)
  have c2 := hc 2 (by omega)
  have c3 := hc 3 (by omega)
  have c4 := hc 4 (by omega)
  have c5 := hc 5 (by omega)
  simp only [Nat.add_zero] at c0
  have hI : ∀ j : Nat, j < 6 → (Instr.index 107 (.agg (row6 fun (j : Nat) => (S.sl (p * 6 + j)).map ad)) (.int .i64 (j : Int))).run Try.prog w = .ok (pq ((S.sl (p * 6 + j)).map ad)) w := fun j hj => idx1 Try.und107 _ hj (row6_get _ hj) w
  unfold row6 at hI
  simp only [Nat.add_zero] at hI
  have HI := Lib.hid hI
  have hp7 : (p : Int) < 7 := by omega
  have hy : ∀ j, j < 6 → (S.sl (p * 6 + j)).isSome = true → hasB S.sl p = true := fun j hj h => has_yes hj h
  have hn : (∀ j, j < 6 → S.sl (p * 6 + j) = none) → hasB S.sl p = false := fun h => has_no h
  have HY := Lib.hid (And.intro hy hn)
  clear hc hI h hy hn
  go_enter Try.func81, Try.ntmps81
  go_wp2_with fail
  go_loopw [13] (fun i wr => ∃ k : Nat, k ≤ 6 ∧ i = .int .i64 k ∧ wr = w ∧ Hid (∀ j, j < k → S.sl (p * 6 + j) = none)) (fun i _ => 6 - (intOf i).toNat)
  case atStart => exact ⟨0, by omega, rfl, rfl, fun j hj => absurd hj (by omega)⟩
  case round =>
    obtain ⟨k, hk, rfl, rfl, hno⟩ := hrel
    by_cases hlt : k < 6
    · have d0 : decide ((k : Int) < 6) = true := by simp; omega
      have I := HI.out k hlt
      rcases e : S.sl (p * 6 + k) with _ | d
      · rw [e] at I
        have hno2 : ∀ j, j < k + 1 → S.sl (p * 6 + j) = none := by
          intro j hj
          rcases Nat.lt_or_ge j k with h1 | h1
          · exact hno.out j h1
          · obtain rfl : j = k := by omega
            exact e
        have HN := Lib.hid hno2
        simp only [Option.map_none] at I
        clear hno2 hno e c0 c1 c2 c3 c4 c5
        go_wp2
        go_roundw
        case rel => exact ⟨k + 1, by omega, by go_num, (by first | trivial | rfl), HN⟩
        case measure => simp [intOf]; omega
      · rw [e] at I
        have hfin := HY.out.1 k hlt (by rw [e]; rfl)
        have HF := Lib.hid hfin
        simp only [Option.map_some] at I
        clear hno e c0 c1 c2 c3 c4 c5 hfin
        go_wp2
        go_ret
        rw [HF.out]
        exact ⟨rfl, rfl⟩
    · obtain rfl : k = 6 := by omega
      have hfin := HY.out.2 hno.out
      have HF := Lib.hid hfin
      clear hfin hno HY c0 c1 c2 c3 c4 c5
      go_wp2
      go_ret
      rw [HF.out]
      exact ⟨rfl, rfl⟩
end Go.Proofs.Ytidmkdaegglepaa
