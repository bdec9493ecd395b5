/- Open objects: Refs, Slots. -/
import Derived.Test.YtidmkdaegglepaaOA
set_option linter.all false
namespace Go.Proofs.Ytidmkdaegglepaa
open Go.RowKit

attribute [local go_sem ↓] guard_pq guard_pq_nil eql_pq_nil neq_pq_nil
def isO (kd oj : Int) (o : OB) : Bool := o.kind == kd && o.obj == oj
def rfO (S : OS) (kd oj : Int) (d : Nat) : Nat := match S.ob d with | some o => if isO kd oj o then cnt S.sl d else 0 | none => 0
/-- How many slots name an object of a kind. -/
def rfN (S : OS) (kd oj : Int) : Nat → Nat
  | 0 => 0
  | k + 1 => rfN S kd oj k + rfO S kd oj k
theorem rfO_le (S : OS) (kd oj : Int) (d : Nat) : rfO S kd oj d ≤ 42 := by
  unfold rfO
  split
  · split
    · exact cnt_le _ _
    · omega
  · omega
theorem rfN_le (S : OS) (kd oj : Int) : ∀ k, rfN S kd oj k ≤ k * 42
  | 0 => by simp [rfN]
  | k + 1 => by
    have h1 := rfN_le S kd oj k
    have h2 := rfO_le S kd oj k
    unfold rfN
    omega
set_option maxHeartbeats 1600000 in
theorem orefs_nil (w : World) (kd oj : Int) : Calls Try.prog 38 #[.pointer none, .int .i64 kd, .int .i64 oj] w fun e w' => e = .returned (.int .i64 0) ∧ w = w' := by
  go_enter Try.func38, Try.ntmps38
  go_wp2
  go_ret
  exact ⟨rfl, rfl⟩
set_option maxHeartbeats 6400000 in
set_option maxRecDepth 100000 in
theorem orefs_any (w : World) (B b : Nat) (S : OS) (ad : Nat → Nat) (kd oj : Int) (h : OW w B b S ad) :
    Calls Try.prog 38 #[.pointer (some ⟨b, 0, none⟩), .int .i64 kd, .int .i64 oj] w fun e w' => e = .returned (.int .i64 (rfN S kd oj 36 : Nat)) ∧ w = w' := by
  have hr := h.obr
  have hI : ∀ (u : World) (j : Nat), j < 36 → (Instr.index 109 (.agg (row36 fun j => (S.ob j).map fun _ => ad j).toArray) (.int .i64 (j : Int))).run Try.prog u = .ok (pq ((S.ob j).map fun _ => ad j)) u :=
    fun u j hj => idx1 Try.und109 _ hj (by simpa using row36_get _ hj) u
  have hsz : (Try.prog.info? 109).map (·.size) = some (row36 fun j => (S.ob j).map fun _ => ad j).length := by
    simp only [row36, List.length_map, List.length_range]
    kernel_rfl
  generalize (row36 fun j => (S.ob j).map fun _ => ad j) = rw36 at *
  have HI := Lib.hid hI
  have HH := Lib.hid h
  clear hI h
  go_enter Try.func38, Try.ntmps38
  go_wp2_with (refine wpList_load_mid rfl 109 _ rfl b 42 rfl rw36 _ hr Try.und109 rfl hsz ?_)
  go_loopw [7, 16] (fun n i wr => ∃ k : Nat, k ≤ 36 ∧ i = .int .i64 k ∧ n = .int .i64 (rfN S kd oj k : Nat) ∧ wr = w) (fun _ i _ => 36 - (intOf i).toNat)
  case atStart => exact ⟨0, by omega, rfl, rfl, rfl⟩
  case round =>
    obtain ⟨k, hk, rfl, rfl, rfl⟩ := hrel
    have hle := rfN_le S kd oj k
    by_cases hlt : k < 36
    · have d0 : decide ((k : Int) < 36) = true := by simp; omega
      have I := HI.out wr k hlt
      have hX : rfN S kd oj (k + 1) = rfN S kd oj k + rfO S kd oj k := rfl
      unfold rfO at hX
      rcases e : S.ob k with _ | o
      · rw [e] at I hX
        simp only [Option.map_none, Nat.add_zero] at I hX
        have HX := Lib.hid hX
        clear hX hr e
        generalize rfN S kd oj k = n at *
        go_wp2
        go_roundw
        case rel => exact ⟨k + 1, by omega, by go_num, by rw [HX.out], (by first | trivial | rfl)⟩
        case measure => simp [intOf]; omega
      · rw [e] at I hX
        simp only [Option.map_some] at I hX
        have hb := (HH.out.obs k o hlt e).2
        have c0 := hb.cell 0
        have c1 := hb.cell 1
        have c3 := hb.cell 3
        unfold oc at c0 c1 c3
        simp at c0 c1 c3
        have hcl := cnt_le S.sl k
        unfold pq at I
        unfold isO at hX
        clear hr hb e
        generalize rfN S kd oj k = n at *
        generalize cnt S.sl k = m at *
        cases e1 : (o.kind == kd)
        · rw [e1] at hX
          simp only [Bool.false_and, Bool.false_eq_true, if_false, Nat.add_zero] at hX
          have HX := Lib.hid hX
          clear hX
          go_wp2
          go_roundw
          case rel => exact ⟨k + 1, by omega, by go_num, by rw [HX.out], (by first | trivial | rfl)⟩
          case measure => simp [intOf]; omega
        · rw [e1] at hX
          cases e2 : (o.obj == oj)
          · rw [e2] at hX
            simp only [Bool.and_false, Bool.false_eq_true, if_false, Nat.add_zero] at hX
            have HX := Lib.hid hX
            clear hX
            go_wp2
            go_roundw
            case rel => exact ⟨k + 1, by omega, by go_num, by rw [HX.out], (by first | trivial | rfl)⟩
            case measure => simp [intOf]; omega
          · rw [e2] at hX
            simp only [Bool.and_self, if_true] at hX
            have HX := Lib.hid hX
            clear hX
            have hnn : n + m ≤ 2000 := by omega
            go_wp2
            go_roundw
            case rel => exact ⟨k + 1, by omega, by go_num, by rw [HX.out]; go_num, (by first | trivial | rfl)⟩
            case measure => simp [intOf]; omega
    · obtain rfl : k = 36 := by omega
      clear hr HI HH
      go_wp2
      go_ret
      exact ⟨rfl, rfl⟩
theorem Try.und108 : Try.prog.underlying 108 = some (.array 7 107) := by kernel_rfl
theorem Try.info76 : (Try.prog.info? 76).map (fun i => (i.zero, i.size, i.bytes)) = some (some (.agg #[.int .i64 0, .int .i64 0, .int .i64 0]), 3, 24) := by kernel_rfl
/-- All slots that name an object. -/
def sL (sl : Nat → Option Nat) (k : Nat) : List (Nat × Nat) := (List.range k).filterMap fun i => (sl i).map fun d => (i, d)
def s3 (x : Nat × Nat) : List Value := [.int .i64 ((x.1 / 6 : Nat) : Int), .int .i64 ((x.1 % 6 : Nat) : Int), .int .i64 (x.2 : Int)]
theorem sL_none {sl : Nat → Option Nat} {k : Nat} (h : sl k = none) : sL sl (k + 1) = sL sl k := by
  unfold sL
  rw [List.range_succ, List.filterMap_append]
  simp [h]
theorem sL_some {sl : Nat → Option Nat} {k d : Nat} (h : sl k = some d) : sL sl (k + 1) = sL sl k ++ [(k, d)] := by
  unfold sL
  rw [List.range_succ, List.filterMap_append]
  simp [h]
theorem sL_len (sl : Nat → Option Nat) (k : Nat) : (sL sl k).length ≤ k := by
  unfold sL
  refine Nat.le_trans (List.length_filterMap_le _ _) ?_
  simp
def row42 (f : Nat → Option Nat) : List Value := (List.range 42).map fun j => pq (f j)
theorem row42_get (f : Nat → Option Nat) {j : Nat} (h : j < 42) : (row42 f)[j]? = some (pq (f j)) := by simp [row42, h]
theorem row42_cut (f : Nat → Option Nat) {p : Nat} (hp : p < 7) : (row42 f).toArray.extract (p * 6) (p * 6 + 6) = row6 fun j => f (p * 6 + j) := by
  apply Array.ext_getElem?
  intro i
  by_cases hi : i < 6
  · rw [row6_get _ hi, Array.getElem?_extract_of_lt (by simp [row42]; omega)]
    have := row42_get f (j := p * 6 + i) (by omega)
    obtain ⟨h1, h2⟩ := List.getElem?_eq_some_iff.1 this
    exact congrArg some h2
  · rw [Array.getElem?_eq_none (by simp [row42]; omega), Array.getElem?_eq_none (by simp [row6]; omega)]
theorem idxRow (f : Nat → Option Nat) {p : Nat} (hp : p < 7) (w : World) :
    (Instr.index 108 (.agg (row42 f).toArray) (.int .i64 (p : Int))).run Try.prog w = .ok (.agg (row6 fun j => f (p * 6 + j))) w := by
  have a : (isAgg 107).run Try.prog w = .ok true w := by kernel_rfl
  have s : (sizeOf 107).run Try.prog w = .ok 6 w := by kernel_rfl
  have hn : (0 : Int) ≤ (p : Int) ∧ (p : Int) < (7 : Int) := by omega
  have hn2 : ¬ 7 ≤ p := by omega
  have e : (List.take 6 (List.drop (p * 6) (row42 f))).toArray = row6 fun j => f (p * 6 + j) := by
    have := row42_cut f hp
    simpa using this
  simp [Instr.index, run_underlying Try.und108, asIntOf, hn, hn2, part, a, s, Sem.run_bind]
  rw [if_pos hp, e]
theorem OT.slr {w : World} {B b : Nat} {sl : Nat → Option Nat} {ob : Nat → Option OB} {ad : Nat → Nat} (h : OT w B b sl ob ad) : w.rangeAt b 0 (row42 fun j => (sl j).map ad) := by
  intro j v hv
  have hj : j < 42 := by
    have := (List.getElem?_eq_some_iff.1 hv).1
    simpa [row42] using this
  rw [row42_get _ hj] at hv
  cases hv
  have := h.cell (i := j) (by omega)
  rw [slot_tf hj] at this
  rw [Nat.zero_add]
  exact this
set_option maxHeartbeats 1600000 in
theorem oslots_nil (w : World) : Calls Try.prog 42 #[.pointer none] w fun e w' => e = .returned (.slice none 0 0) ∧ w = w' := by
  go_enter Try.func42, Try.ntmps42
  go_wp2
  go_ret
  exact ⟨rfl, rfl⟩
end Go.Proofs.Ytidmkdaegglepaa
