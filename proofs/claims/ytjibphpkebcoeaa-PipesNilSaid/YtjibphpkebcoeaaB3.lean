/- For every step PipesNil returns true, and the step reads as before. No condition. -/
import Derived.Test.YtjibphpkebcoeaaA7
import Derived.Test.YtjibphpkebcoeaaR0
import Derived.Lib.SmallJoins
set_option linter.all false
namespace Go.Proofs.Ytjibphpkebcoeaa
open Go.ChangeShapes Go.WideShapes Go.ChangeAt Go.RowKit Go.Deep

set_option maxHeartbeats 400000 in
theorem write_nil (id : Int) (x : ByteArray) (w : World) (h : 0 ≤ id) (h2 : id < 3) :
    Calls Try.prog 16 #[.pointer none, .int .i64 id, .string x] w fun e w' => e = .returned (.int .i64 6) ∧ w = w' := by
  go_enter Try.func16, Try.ntmps16
  go_wp2_with (go_at_call 39; refine (of_nil _ _ h h2).mono ?_; rintro e w' ⟨rfl, rfl⟩)
  go_ret
  exact ⟨rfl, rfl⟩
set_option maxHeartbeats 400000 in
theorem read_nil (id n : Int) (w : World) (hn : 0 ≤ n) (h : 0 ≤ id) (h2 : id < 3) :
    Calls Try.prog 17 #[.pointer none, .int .i64 id, .int .i64 n] w fun e w' => e = .returned (.tuple #[.string ByteArray.empty, .int .i64 6]) ∧ w = w' := by
  go_enter Try.func17, Try.ntmps17
  go_wp2_with (go_at_call 39; refine (of_nil _ _ h h2).mono ?_; rintro e w' ⟨rfl, rfl⟩)
  go_ret2
  exact ⟨rfl, rfl⟩
set_option maxHeartbeats 400000 in
theorem waits_nil (id : Int) (w : World) (h : 0 ≤ id) (h2 : id < 3) :
    Calls Try.prog 35 #[.pointer none, .int .i64 id] w fun e w' => e = .returned (.tuple #[.int .i64 0, .int .i64 6]) ∧ w = w' := by
  go_enter Try.func35, Try.ntmps35
  go_wp2_with (go_at_call 39; refine (of_nil _ _ h h2).mono ?_; rintro e w' ⟨rfl, rfl⟩)
  go_ret2
  exact ⟨rfl, rfl⟩
set_option maxHeartbeats 400000 in
theorem close_nil (id : Int) (w : World) (h : 0 ≤ id) (h2 : id < 3) :
    Calls Try.prog 36 #[.pointer none, .int .i64 id] w fun e w' => e = .returned (.int .i64 6) ∧ w = w' := by
  go_enter Try.func36, Try.ntmps36
  go_wp2_with (go_at_call 39; refine (of_nil _ _ h h2).mono ?_; rintro e w' ⟨rfl, rfl⟩)
  go_ret
  exact ⟨rfl, rfl⟩

set_option maxHeartbeats 1600000 in
set_option maxRecDepth 100000 in
theorem pipesNil_1 (wh id n : Int) (x : ByteArray) (w : World) (h : 0 ≤ id) (h2 : id < 3) (hn : n < 0) :
    Calls Try.prog 10 #[.agg #[.int .i64 wh, .int .i64 id, .int .i64 n, .string x]] w fun e w' => e = .returned (.bool true) ∧ Below w.heap.size w w' := by
  have hd1 : decide (id < 0) = false := by simp; omega
  have hd2 : decide (2 < id) = false := by simp; omega
  have hd3 : decide (n < 0) = true := by simp; omega
  have hb := (Below.refl w.heap.size w).alloc (Nat.le_refl _) (.cells #[.int .i64 wh, .int .i64 id, .int .i64 n, .string x] 31)
  go_enter Try.func10, Try.ntmps10
  go_wp2_with (first
    | (go_at_call 15; refine (open_nil _).mono ?_; rintro e w' ⟨rfl, rfl⟩)
    | (go_at_call 17; refine (read_neg _ _ _ _ hn).mono ?_; rintro e w' ⟨rfl, rfl⟩)
    | (go_at_call 35; refine (waits_nil _ _ h h2).mono ?_; rintro e w' ⟨rfl, rfl⟩)
    | (go_at_call 36; refine (close_nil _ _ h h2).mono ?_; rintro e w' ⟨rfl, rfl⟩)
    | (go_at_call 16; refine (write_nil _ _ _ h h2).mono ?_; rintro e w' ⟨rfl, rfl⟩)
    | (go_at_call 34; refine (list_nil _).mono ?_; rintro e w' ⟨rfl, rfl⟩)
    | (go_at_call 14; refine (abc_any _).mono ?_; rintro e w' ⟨rfl, hb2⟩))
  go_ret
  exact ⟨rfl, hb.trans (hb2.mono hb.size)⟩
set_option maxHeartbeats 1600000 in
set_option maxRecDepth 100000 in
theorem pipesNil_2 (wh id n : Int) (x : ByteArray) (w : World) (h : 0 ≤ id) (h2 : id < 3) (hn : 0 ≤ n) :
    Calls Try.prog 10 #[.agg #[.int .i64 wh, .int .i64 id, .int .i64 n, .string x]] w fun e w' => e = .returned (.bool true) ∧ Below w.heap.size w w' := by
  have hd1 : decide (id < 0) = false := by simp; omega
  have hd2 : decide (2 < id) = false := by simp; omega
  have hd3 : decide (n < 0) = false := by simp; omega
  have hb := (Below.refl w.heap.size w).alloc (Nat.le_refl _) (.cells #[.int .i64 wh, .int .i64 id, .int .i64 n, .string x] 31)
  go_enter Try.func10, Try.ntmps10
  go_wp2_with (first
    | (go_at_call 15; refine (open_nil _).mono ?_; rintro e w' ⟨rfl, rfl⟩)
    | (go_at_call 17; refine (read_nil _ _ _ hn h h2).mono ?_; rintro e w' ⟨rfl, rfl⟩)
    | (go_at_call 35; refine (waits_nil _ _ h h2).mono ?_; rintro e w' ⟨rfl, rfl⟩)
    | (go_at_call 36; refine (close_nil _ _ h h2).mono ?_; rintro e w' ⟨rfl, rfl⟩)
    | (go_at_call 16; refine (write_nil _ _ _ h h2).mono ?_; rintro e w' ⟨rfl, rfl⟩)
    | (go_at_call 34; refine (list_nil _).mono ?_; rintro e w' ⟨rfl, rfl⟩)
    | (go_at_call 14; refine (abc_any _).mono ?_; rintro e w' ⟨rfl, hb2⟩))
  go_ret
  exact ⟨rfl, hb.trans (hb2.mono hb.size)⟩
theorem read_bad (p : Value) (id n : Int) (w : World) (h : id < 0 ∨ 3 ≤ id) :
    Calls Try.prog 17 #[p, .int .i64 id, .int .i64 n] w fun e w' => e = .returned (.tuple #[.string ByteArray.empty, .int .i64 1]) ∧ w = w' := by
  by_cases hn : n < 0
  · exact read_neg p id n w hn
  · exact read_arg p id n w (by omega) h
set_option maxHeartbeats 1600000 in
set_option maxRecDepth 100000 in
theorem pipesNil_3 (wh id n : Int) (x : ByteArray) (w : World) (h : id < 0) :
    Calls Try.prog 10 #[.agg #[.int .i64 wh, .int .i64 id, .int .i64 n, .string x]] w fun e w' => e = .returned (.bool true) ∧ Below w.heap.size w w' := by
  have hd1 : decide (id < 0) = true := by simp; omega
  have hb := (Below.refl w.heap.size w).alloc (Nat.le_refl _) (.cells #[.int .i64 wh, .int .i64 id, .int .i64 n, .string x] 31)
  go_enter Try.func10, Try.ntmps10
  go_wp2_with (first
    | (go_at_call 15; refine (open_nil _).mono ?_; rintro e w' ⟨rfl, rfl⟩)
    | (go_at_call 17; refine (read_bad _ _ _ _ (by omega)).mono ?_; rintro e w' ⟨rfl, rfl⟩)
    | (go_at_call 35; refine (waits_arg _ _ _ (by omega)).mono ?_; rintro e w' ⟨rfl, rfl⟩)
    | (go_at_call 36; refine (close_arg _ _ _ (by omega)).mono ?_; rintro e w' ⟨rfl, rfl⟩)
    | (go_at_call 16; refine (write_arg _ _ _ _ (by omega)).mono ?_; rintro e w' ⟨rfl, rfl⟩)
    | (go_at_call 34; refine (list_nil _).mono ?_; rintro e w' ⟨rfl, rfl⟩)
    | (go_at_call 14; refine (abc_any _).mono ?_; rintro e w' ⟨rfl, hb2⟩))
  go_ret
  exact ⟨rfl, hb.trans (hb2.mono hb.size)⟩
set_option maxHeartbeats 1600000 in
set_option maxRecDepth 100000 in
theorem pipesNil_4 (wh id n : Int) (x : ByteArray) (w : World) (h : 3 ≤ id) :
    Calls Try.prog 10 #[.agg #[.int .i64 wh, .int .i64 id, .int .i64 n, .string x]] w fun e w' => e = .returned (.bool true) ∧ Below w.heap.size w w' := by
  have hd1 : decide (id < 0) = false := by simp; omega
  have hd2 : decide (2 < id) = true := by simp; omega
  have hb := (Below.refl w.heap.size w).alloc (Nat.le_refl _) (.cells #[.int .i64 wh, .int .i64 id, .int .i64 n, .string x] 31)
  go_enter Try.func10, Try.ntmps10
  go_wp2_with (first
    | (go_at_call 15; refine (open_nil _).mono ?_; rintro e w' ⟨rfl, rfl⟩)
    | (go_at_call 17; refine (read_bad _ _ _ _ (by omega)).mono ?_; rintro e w' ⟨rfl, rfl⟩)
    | (go_at_call 35; refine (waits_arg _ _ _ (by omega)).mono ?_; rintro e w' ⟨rfl, rfl⟩)
    | (go_at_call 36; refine (close_arg _ _ _ (by omega)).mono ?_; rintro e w' ⟨rfl, rfl⟩)
    | (go_at_call 16; refine (write_arg _ _ _ _ (by omega)).mono ?_; rintro e w' ⟨rfl, rfl⟩)
    | (go_at_call 34; refine (list_nil _).mono ?_; rintro e w' ⟨rfl, rfl⟩)
    | (go_at_call 14; refine (abc_any _).mono ?_; rintro e w' ⟨rfl, hb2⟩))
  go_ret
  exact ⟨rfl, hb.trans (hb2.mono hb.size)⟩
theorem pipesNil_any (wh id n : Int) (x : ByteArray) (w : World) :
    Calls Try.prog 10 #[.agg #[.int .i64 wh, .int .i64 id, .int .i64 n, .string x]] w fun e w' => e = .returned (.bool true) ∧ Below w.heap.size w w' := by
  by_cases h1 : id < 0
  · exact pipesNil_3 wh id n x w h1
  by_cases h2 : 3 ≤ id
  · exact pipesNil_4 wh id n x w h2
  by_cases h3 : n < 0
  · exact pipesNil_1 wh id n x w (by omega) (by omega) h3
  · exact pipesNil_2 wh id n x w (by omega) (by omega) (by omega)

set_option maxRecDepth 100000 in
theorem pipesNil_lifted (os : Os) (started : os.Started) (H : Type) (enc : TypeId × Value → H) :
    ReturnsInHanded {} Try.checked os 10 .any (Rows.pipesNilSpec.pre6 enc Try.prog Try.f10 Rows.pipesNilRow.domain false) (Rows.pipesNilSpec.post enc Try.prog Try.f10 false true false false) := by
  refine returnsInHanded_of_change (C := Try.checked) Try.own started (by kernel_rfl) Try.func10
    (ChangeSpec.witness6 (enc := enc) (C := Try.checked) false ⟨#[], #[.agg #[.int .i64 0, .int .i64 0, .int .i64 0, .string ByteArray.empty]], []⟩ 8 (by kernel_rfl) (by kernel_rfl) (by kernel_rfl) (by kernel_rfl)) ?_
  intro W base args ds gs before hval0 hW _ _
  have hval : ∀ (j : Nat) t v, Try.f10.params[j]? = some t → args[j]? = some v → Value.okWide Try.prog W .any base t v := hval0
  have hW' := hW
  obtain ⟨p, q, hA0, hV, rfl, _, _⟩ := hW
  have hA : DataW.TrodAll enc Try.prog W 0 (fun _ => true) true Try.f10.params.toList args.toList ds p := hA0
  rw [Try.params10] at hA hval
  obtain ⟨v0, d0, rfl, rfl, h0⟩ := trodAll_one hA
  obtain ⟨rfl, rfl⟩ := trodVars_none hV
  clear hA0 hval0
  have lt0 : ∀ x ∈ p, x.block < W.heap.size := by obtain ⟨m, hm⟩ := h0; exact DataW.trod_lt m _ _ _ hm
  obtain ⟨c0, c1, c2, c3, y0, y1, y2, y3, m, rfl, _, _, r0, r1, r2, r3⟩ := Go.Joins.open_agg4 Try.underlying31 (by kernel_rfl) (by kernel_rfl) (hval 0 31 v0 rfl rfl) h0
  obtain ⟨x0, rfl, _⟩ := cell_int Try.underlying3 ⟨_, _, r0⟩
  obtain ⟨x1, rfl, _⟩ := cell_int Try.underlying3 ⟨_, _, r1⟩
  obtain ⟨x2, rfl, _⟩ := cell_int Try.underlying3 ⟨_, _, r2⟩
  obtain ⟨x3, rfl, _⟩ := cell_string Try.underlying9 ⟨_, _, r3⟩
  refine (pipesNil_any x0 x1 x2 x3 W).mono fun e W' ⟨he, bel⟩ => ?_
  subst he
  exact ⟨_, rfl, _, _, _, [], _, [], hW', trodAll_mk1 (shut_bool Try.underlying4 _), trodAll_mk1 (Below.trod Try.laidOut (by kernel_rfl) (of_decide_eq_true (by kernel_rfl)) h0 bel lt0), rfl, bel.frame _, fun h => by cases h⟩

theorem pipesNil_holds : Rows.PipesNilSaid :=
  OpenClaim.holds_of_wide 10 Try.f10 rfl rfl rfl rfl rfl rfl rfl ⟨rfl, rfl, rfl, rfl, rfl⟩ rfl rfl rfl rfl rfl (by kernel_rfl) Try.func10 (by kernel_rfl)
    (of_decide_eq_true (by kernel_rfl)) (by unfold Func.isWrapper; first | (rw [if_pos (by decide +kernel)]; kernel_rfl) | (rw [if_neg (by decide +kernel)]; exact ⟨rfl, rfl⟩))
    (fun os started H enc _ => pipesNil_lifted os started H enc)
#print axioms pipesNil_holds
end Go.Proofs.Ytjibphpkebcoeaa
