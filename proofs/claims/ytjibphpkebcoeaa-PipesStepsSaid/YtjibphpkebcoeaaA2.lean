/- Walks over the pipes, 2. -/
import Derived.Test.YtjibphpkebcoeaaA1
import Derived.Handy
set_option linter.all false
namespace Go.Proofs.Ytjibphpkebcoeaa
open Go.RowKit

set_option maxHeartbeats 400000 in
theorem write_arg (p : Value) (id : Int) (x : ByteArray) (w : World) (h : id < 0 ∨ 3 ≤ id) :
    Calls Try.prog 16 #[p, .int .i64 id, .string x] w fun e w' => e = .returned (.int .i64 1) ∧ w = w' := by
  go_enter Try.func16, Try.ntmps16
  go_wp2_with (go_at_call 39; refine (of_arg _ _ _ h).mono ?_; rintro e w' ⟨rfl, rfl⟩)
  go_ret
  exact ⟨rfl, rfl⟩
set_option maxHeartbeats 400000 in
theorem write_none (s : PS) (b i : Nat) (x : ByteArray) (w : World) (h : i < 3) (hs : s i = none) (ht : Tab w b s) :
    Calls Try.prog 16 #[.pointer (some ⟨b, 0, none⟩), .int .i64 i, .string x] w fun e w' => e = .returned (.int .i64 6) ∧ w = w' := by
  go_enter Try.func16, Try.ntmps16
  go_wp2_with (go_at_call 39; refine (of_none s b i _ h hs ht).mono ?_; rintro e w' ⟨rfl, rfl⟩)
  go_ret
  exact ⟨rfl, rfl⟩

set_option maxHeartbeats 400000 in
theorem read_neg (p : Value) (id n : Int) (w : World) (h : n < 0) :
    Calls Try.prog 17 #[p, .int .i64 id, .int .i64 n] w fun e w' => e = .returned (.tuple #[.string ByteArray.empty, .int .i64 1]) ∧ w = w' := by
  go_enter Try.func17, Try.ntmps17
  go_wp2
  go_ret2
  exact ⟨rfl, rfl⟩
set_option maxHeartbeats 400000 in
theorem read_arg (p : Value) (id n : Int) (w : World) (hn : 0 ≤ n) (h : id < 0 ∨ 3 ≤ id) :
    Calls Try.prog 17 #[p, .int .i64 id, .int .i64 n] w fun e w' => e = .returned (.tuple #[.string ByteArray.empty, .int .i64 1]) ∧ w = w' := by
  go_enter Try.func17, Try.ntmps17
  go_wp2_with (go_at_call 39; refine (of_arg _ _ _ h).mono ?_; rintro e w' ⟨rfl, rfl⟩)
  go_ret2
  exact ⟨rfl, rfl⟩
set_option maxHeartbeats 400000 in
theorem read_none (s : PS) (b i : Nat) (n : Int) (w : World) (hn : 0 ≤ n) (h : i < 3) (hs : s i = none) (ht : Tab w b s) :
    Calls Try.prog 17 #[.pointer (some ⟨b, 0, none⟩), .int .i64 i, .int .i64 n] w fun e w' => e = .returned (.tuple #[.string ByteArray.empty, .int .i64 6]) ∧ w = w' := by
  go_enter Try.func17, Try.ntmps17
  go_wp2_with (go_at_call 39; refine (of_none s b i _ h hs ht).mono ?_; rintro e w' ⟨rfl, rfl⟩)
  go_ret2
  exact ⟨rfl, rfl⟩
set_option maxHeartbeats 400000 in
theorem read_some (s : PS) (b i c k : Nat) (d : ByteArray) (w : World) (h : i < 3) (hs : s i = some (c, d)) (ht : Tab w b s)
   (hc : w.cell? ⟨c, 0, none⟩ = some (.string d)) (hf : w.frozen? ⟨c, 0, none⟩ = false) (hd : d.size ≤ 16) (hk : k ≤ d.size) :
    Calls Try.prog 17 #[.pointer (some ⟨b, 0, none⟩), .int .i64 i, .int .i64 k] w fun e w' => e = .returned (.tuple #[.string (d.extract 0 k), .int .i64 0]) ∧ w' = w.setCell ⟨c, 0, none⟩ (.string (d.extract k d.size)) := by
  go_enter Try.func17, Try.ntmps17
  go_wp2_with (go_at_call 39; refine (of_some s b i c d _ h hs ht).mono ?_; rintro e w' ⟨rfl, rfl⟩)
  go_ret2
  exact ⟨rfl, rfl⟩
set_option maxHeartbeats 400000 in
theorem read_all (s : PS) (b i c : Nat) (n : Int) (d : ByteArray) (w : World) (h : i < 3) (hs : s i = some (c, d)) (ht : Tab w b s)
   (hc : w.cell? ⟨c, 0, none⟩ = some (.string d)) (hf : w.frozen? ⟨c, 0, none⟩ = false) (hd : d.size ≤ 16) (hk : d.size < n) :
    Calls Try.prog 17 #[.pointer (some ⟨b, 0, none⟩), .int .i64 i, .int .i64 n] w fun e w' => e = .returned (.tuple #[.string d, .int .i64 0]) ∧ w' = w.setCell ⟨c, 0, none⟩ (.string ByteArray.empty) := by
  go_enter Try.func17, Try.ntmps17
  go_wp2_with (go_at_call 39; refine (of_some s b i c d _ h hs ht).mono ?_; rintro e w' ⟨rfl, rfl⟩)
  go_ret2
  exact ⟨rfl, rfl⟩
set_option maxHeartbeats 400000 in
theorem waits_arg (p : Value) (id : Int) (w : World) (h : id < 0 ∨ 3 ≤ id) :
    Calls Try.prog 35 #[p, .int .i64 id] w fun e w' => e = .returned (.tuple #[.int .i64 0, .int .i64 1]) ∧ w = w' := by
  go_enter Try.func35, Try.ntmps35
  go_wp2_with (go_at_call 39; refine (of_arg _ _ _ h).mono ?_; rintro e w' ⟨rfl, rfl⟩)
  go_ret2
  exact ⟨rfl, rfl⟩
set_option maxHeartbeats 400000 in
theorem waits_none (s : PS) (b i : Nat) (w : World) (h : i < 3) (hs : s i = none) (ht : Tab w b s) :
    Calls Try.prog 35 #[.pointer (some ⟨b, 0, none⟩), .int .i64 i] w fun e w' => e = .returned (.tuple #[.int .i64 0, .int .i64 6]) ∧ w = w' := by
  go_enter Try.func35, Try.ntmps35
  go_wp2_with (go_at_call 39; refine (of_none s b i _ h hs ht).mono ?_; rintro e w' ⟨rfl, rfl⟩)
  go_ret2
  exact ⟨rfl, rfl⟩
set_option maxHeartbeats 400000 in
theorem waits_some (s : PS) (b i c : Nat) (d : ByteArray) (w : World) (h : i < 3) (hs : s i = some (c, d)) (ht : Tab w b s)
   (hc : w.cell? ⟨c, 0, none⟩ = some (.string d)) :
    Calls Try.prog 35 #[.pointer (some ⟨b, 0, none⟩), .int .i64 i] w fun e w' => e = .returned (.tuple #[.int .i64 d.size, .int .i64 0]) ∧ w = w' := by
  go_enter Try.func35, Try.ntmps35
  go_wp2_with (go_at_call 39; refine (of_some s b i c d _ h hs ht).mono ?_; rintro e w' ⟨rfl, rfl⟩)
  go_ret2
  exact ⟨rfl, rfl⟩
set_option maxHeartbeats 400000 in
theorem close_arg (p : Value) (id : Int) (w : World) (h : id < 0 ∨ 3 ≤ id) :
    Calls Try.prog 36 #[p, .int .i64 id] w fun e w' => e = .returned (.int .i64 1) ∧ w = w' := by
  go_enter Try.func36, Try.ntmps36
  go_wp2_with (go_at_call 39; refine (of_arg _ _ _ h).mono ?_; rintro e w' ⟨rfl, rfl⟩)
  go_ret
  exact ⟨rfl, rfl⟩
set_option maxHeartbeats 400000 in
theorem close_none (s : PS) (b i : Nat) (w : World) (h : i < 3) (hs : s i = none) (ht : Tab w b s) :
    Calls Try.prog 36 #[.pointer (some ⟨b, 0, none⟩), .int .i64 i] w fun e w' => e = .returned (.int .i64 6) ∧ w = w' := by
  go_enter Try.func36, Try.ntmps36
  go_wp2_with (go_at_call 39; refine (of_none s b i _ h hs ht).mono ?_; rintro e w' ⟨rfl, rfl⟩)
  go_ret
  exact ⟨rfl, rfl⟩
set_option maxHeartbeats 400000 in
theorem close_some (s : PS) (b i c : Nat) (d : ByteArray) (w : World) (h : i < 3) (hs : s i = some (c, d)) (ht : Tab w b s) :
    Calls Try.prog 36 #[.pointer (some ⟨b, 0, none⟩), .int .i64 i] w fun e w' => e = .returned (.int .i64 0) ∧ w' = w.setCell ⟨b, i, none⟩ (.pointer none) := by
  obtain ⟨k0, k1⟩ := ht i h
  go_enter Try.func36, Try.ntmps36
  go_wp2_with (go_at_call 39; refine (of_some s b i c d _ h hs ht).mono ?_; rintro e w' ⟨rfl, rfl⟩)
  go_ret
  exact ⟨rfl, rfl⟩
set_option maxHeartbeats 400000 in
theorem new_any (w : World) :
    Calls Try.prog 12 #[] w fun e w' => e = .returned (.pointer (some ⟨w.heap.size, 0, none⟩)) ∧ w' = w.alloc (.cells #[.pointer none, .pointer none, .pointer none] 81) := by
  go_enter Try.func12, Try.ntmps12
  go_wp2
  go_ret
  exact ⟨rfl, rfl⟩
set_option maxHeartbeats 400000 in
theorem open_nil (w : World) :
    Calls Try.prog 15 #[.pointer none] w fun e w' => e = .returned (.tuple #[.int .i64 0, .int .i64 7]) ∧ w = w' := by
  go_enter Try.func15, Try.ntmps15
  go_wp2
  go_ret2
  exact ⟨rfl, rfl⟩
theorem idx0 (x0 x1 x2 : Value) (w : World) : (Instr.index 79 (.agg #[x0, x1, x2]) (.int .i64 0)).run Try.prog w = .ok x0 w := by kernel_rfl
theorem idx1 (x0 x1 x2 : Value) (w : World) : (Instr.index 79 (.agg #[x0, x1, x2]) (.int .i64 1)).run Try.prog w = .ok x1 w := by kernel_rfl
theorem idx2 (x0 x1 x2 : Value) (w : World) : (Instr.index 79 (.agg #[x0, x1, x2]) (.int .i64 2)).run Try.prog w = .ok x2 w := by kernel_rfl
set_option maxHeartbeats 400000 in
theorem open_0 (x1 : Value) (x2 : Value) (b : Nat) (w : World) (hb : Blk w b 81 #[.pointer none, x1, x2]) :
    Calls Try.prog 15 #[.pointer (some ⟨b, 0, none⟩)] w fun e w' => e = .returned (.tuple #[.int .i64 0, .int .i64 0]) ∧
      w' = (w.setCell ⟨b, 0, none⟩ (.pointer (some ⟨w.heap.size, 0, none⟩))).alloc (.cells #[.string ByteArray.empty] 83) := by
  have k0 := hb.cell 0
  have k1 := hb.cell 1
  have k2 := hb.cell 2
  have f0 := hb.frozen 0
  have hl := hb.lt
  have i0 := idx0 (.pointer none) (x1) (x2)
  simp at k0 k1 k2
  go_enter Try.func15, Try.ntmps15
  go_wp2
  refine wp_loop_rounds 1 ?_
  rw [rounds_succ]
  go_wp2
  go_ret2
  exact ⟨rfl, rfl⟩
set_option maxHeartbeats 400000 in
theorem open_1 (c0 : Nat) (x2 : Value) (b : Nat) (w : World) (hb : Blk w b 81 #[.pointer (some ⟨c0, 0, none⟩), .pointer none, x2]) :
    Calls Try.prog 15 #[.pointer (some ⟨b, 0, none⟩)] w fun e w' => e = .returned (.tuple #[.int .i64 1, .int .i64 0]) ∧
      w' = (w.setCell ⟨b, 1, none⟩ (.pointer (some ⟨w.heap.size, 0, none⟩))).alloc (.cells #[.string ByteArray.empty] 83) := by
  have k0 := hb.cell 0
  have k1 := hb.cell 1
  have k2 := hb.cell 2
  have f1 := hb.frozen 1
  have hl := hb.lt
  have i0 := idx0 (.pointer (some ⟨c0, 0, none⟩)) (.pointer none) (x2)
  have i1 := idx1 (.pointer (some ⟨c0, 0, none⟩)) (.pointer none) (x2)
  simp at k0 k1 k2
  go_enter Try.func15, Try.ntmps15
  go_wp2
  refine wp_loop_rounds 2 ?_
  rw [rounds_succ]
  go_wp2
  rw [rounds_succ]
  go_wp2
  go_ret2
  exact ⟨rfl, rfl⟩
set_option maxHeartbeats 400000 in
theorem open_2 (c0 : Nat) (c1 : Nat) (b : Nat) (w : World) (hb : Blk w b 81 #[.pointer (some ⟨c0, 0, none⟩), .pointer (some ⟨c1, 0, none⟩), .pointer none]) :
    Calls Try.prog 15 #[.pointer (some ⟨b, 0, none⟩)] w fun e w' => e = .returned (.tuple #[.int .i64 2, .int .i64 0]) ∧
      w' = (w.setCell ⟨b, 2, none⟩ (.pointer (some ⟨w.heap.size, 0, none⟩))).alloc (.cells #[.string ByteArray.empty] 83) := by
  have k0 := hb.cell 0
  have k1 := hb.cell 1
  have k2 := hb.cell 2
  have f2 := hb.frozen 2
  have hl := hb.lt
  have i0 := idx0 (.pointer (some ⟨c0, 0, none⟩)) (.pointer (some ⟨c1, 0, none⟩)) (.pointer none)
  have i1 := idx1 (.pointer (some ⟨c0, 0, none⟩)) (.pointer (some ⟨c1, 0, none⟩)) (.pointer none)
  have i2 := idx2 (.pointer (some ⟨c0, 0, none⟩)) (.pointer (some ⟨c1, 0, none⟩)) (.pointer none)
  simp at k0 k1 k2
  go_enter Try.func15, Try.ntmps15
  go_wp2
  refine wp_loop_rounds 3 ?_
  rw [rounds_succ]
  go_wp2
  rw [rounds_succ]
  go_wp2
  rw [rounds_succ]
  go_wp2
  go_ret2
  exact ⟨rfl, rfl⟩
set_option maxHeartbeats 400000 in
theorem open_3 (c0 : Nat) (c1 : Nat) (c2 : Nat) (b : Nat) (w : World) (hb : Blk w b 81 #[.pointer (some ⟨c0, 0, none⟩), .pointer (some ⟨c1, 0, none⟩), .pointer (some ⟨c2, 0, none⟩)]) :
    Calls Try.prog 15 #[.pointer (some ⟨b, 0, none⟩)] w fun e w' => e = .returned (.tuple #[.int .i64 0, .int .i64 5]) ∧ w = w' := by
  have k0 := hb.cell 0
  have k1 := hb.cell 1
  have k2 := hb.cell 2
  have hl := hb.lt
  have i0 := idx0 (.pointer (some ⟨c0, 0, none⟩)) (.pointer (some ⟨c1, 0, none⟩)) (.pointer (some ⟨c2, 0, none⟩))
  have i1 := idx1 (.pointer (some ⟨c0, 0, none⟩)) (.pointer (some ⟨c1, 0, none⟩)) (.pointer (some ⟨c2, 0, none⟩))
  have i2 := idx2 (.pointer (some ⟨c0, 0, none⟩)) (.pointer (some ⟨c1, 0, none⟩)) (.pointer (some ⟨c2, 0, none⟩))
  simp at k0 k1 k2
  go_enter Try.func15, Try.ntmps15
  go_wp2
  refine wp_loop_rounds 4 ?_
  rw [rounds_succ]
  go_wp2
  rw [rounds_succ]
  go_wp2
  rw [rounds_succ]
  go_wp2
  rw [rounds_succ]
  go_wp2
  go_ret2
  exact ⟨rfl, rfl⟩
end Go.Proofs.Ytjibphpkebcoeaa
