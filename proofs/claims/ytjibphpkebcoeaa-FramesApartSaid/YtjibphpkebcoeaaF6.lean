/- Frames: New, and 'seven'. -/
import Derived.Test.YtjibphpkebcoeaaF5
import Derived.Laws.MakeOwn
set_option linter.all false
namespace Go.Proofs.Ytjibphpkebcoeaa
open Go.RowKit

noncomputable def MK86 (a b : Value) : Sem Value := Instr.makeSlice 86 a b
theorem MK86_eq (a b : Value) : Instr.makeSlice 86 a b = MK86 a b := rfl
def zeros (n : Nat) : List UInt8 := List.replicate (16 * n) 0
theorem Try.info91 : (Try.prog.info? 91).map (fun i => (i.zero, i.size, i.bytes)) = some (some (.agg #[.int .u8 0, .int .u8 0, .int .u8 0, .int .u8 0, .int .u8 0, .int .u8 0, .int .u8 0, .int .u8 0, .int .u8 0, .int .u8 0, .int .u8 0, .int .u8 0, .int .u8 0, .int .u8 0, .int .u8 0, .int .u8 0]), 16, 16) := by kernel_rfl
theorem made_zero (n : Nat) : madeCells (bcs zeroL) n = bcs (List.replicate n 0) := by
  apply Array.ext
  · rw [size_madeCells, bcs_size, List.length_replicate]
  · intro i h1 h2
    have h16 : i % 16 < 16 := Nat.mod_lt _ (by omega)
    have hs : (bcs zeroL).size = 16 := rfl
    simp only [madeCells, Array.getElem_map, Array.getElem_range, hs]
    have e : (bcs zeroL)[i % 16]? = some (bc 0) := by
      rw [bcs_get]
      have : zeroL[i % 16]? = some 0 := by unfold zeroL; rw [List.getElem?_replicate, if_pos h16]
      rw [this]; rfl
    rw [getElem!_def, e]
    simp [bcs]
theorem mk_run (w : World) (n : Nat) (hn : n ≤ 64) : (MK86 (.int .i64 n) (.int .i64 n)).run Try.prog w = .ok (.slice (some ⟨w.heap.size, 0, none⟩) n n) (w.alloc (.cells (bcs (zeros n)) 91)) := by
  obtain ⟨i0, hi, hz0, hz1, hz2⟩ := info_parts Try.info91
  have := run_make (P := Try.prog) w 86 91 i0 _ Try.underlying86 hi hz0 .i64 .i64 (n : Int) (n : Int) (by omega) (by omega) (by rw [hz2]; omega) (by omega)
  simp only [Int.toNat_natCast, hz1] at this
  have e : madeCells (bcs zeroL) (n * 16) = bcs (zeros n) := by rw [made_zero, zeros, Nat.mul_comm]
  rw [← e]
  exact this

attribute [local go_sem ↓] MK86_eq
set_option maxHeartbeats 800000 in
theorem fnew_bad (w : World) (n : Int) (h : n < 1 ∨ 64 < n) :
    Calls Try.prog 18 #[.int .i64 n] w fun e w' => e = .returned (.tuple #[.pointer none, .int .i64 1]) ∧ w = w' := by
  rcases h with h | h
  · have e0 : decide (n < 1) = true := by simpa using h
    clear h
    go_enter Try.func18, Try.ntmps18
    go_wp2
    go_ret2
    exact ⟨rfl, rfl⟩
  · have e0 : decide (n < 1) = false := by simp; omega
    have e1 : decide (64 < n) = true := by simpa using h
    go_enter Try.func18, Try.ntmps18
    go_wp2
    go_ret2
    exact ⟨rfl, rfl⟩
set_option maxHeartbeats 800000 in
theorem fnew_ok (w : World) (B n : Nat) (hB : B ≤ w.heap.size) (h1 : 1 ≤ n) (h2 : n ≤ 64) :
    Calls Try.prog 18 #[.int .i64 n] w fun e w' => ∃ b, e = .returned (.tuple #[.pointer (some ⟨b, 0, none⟩), .int .i64 0]) ∧ FR w' B b n (zeros n) ∧ Below w.heap.size w w' := by
  have e0 : decide ((n : Int) < 1) = false := by simp; omega
  have e1 : decide (64 < (n : Int)) = false := by simp; omega
  have M1 := mk_run w n h2
  have hg := Blk.new w 91 (bcs (zeros n))
  have hb := Blk.new (w.alloc (.cells (bcs (zeros n)) 91)) 88 #[.slice (some ⟨w.heap.size, 0, none⟩) n n]
  have hfr : FR ((w.alloc (.cells (bcs (zeros n)) 91)).alloc (.cells #[.slice (some ⟨w.heap.size, 0, none⟩) n n] 88)) B (w.alloc (.cells (bcs (zeros n)) 91)).heap.size n (zeros n) :=
    ⟨by simp; omega, ⟨h1, h2⟩, by simp [zeros], w.heap.size, hb, hg.alloc _, hB⟩
  have hbl := ((alloc_below w (.cells (bcs (zeros n)) 91)).alloc (by simp) (.cells #[.slice (some ⟨w.heap.size, 0, none⟩) n n] 88))
  simp only [World.size_alloc] at hfr
  clear hg hb
  go_enter Try.func18, Try.ntmps18
  go_wp2
  go_ret2
  exact ⟨_, rfl, hfr, hbl⟩

theorem FR.bl {w w' : World} {B b n : Nat} {xs : List UInt8} (h : FR w B b n xs) (hB : B ≤ w.heap.size) (hm : Mod (FO w B b) w w') : Below B w w' := hm.below hB (FO.low h)
set_option maxHeartbeats 1600000 in
set_option maxRecDepth 100000 in
theorem seven_any (w : World) :
    Calls Try.prog 19 #[] w fun e w' => e = .returned (.bool true) ∧ Below w.heap.size w w' := by
  go_enter Try.func19, Try.ntmps19
  go_wp2_with fail
  refine (fnew_ok w w.heap.size 3 (Nat.le_refl _) (by omega) (by omega)).mono ?_
  rintro e w1 ⟨b, rfl, h1, b1⟩
  go_wp2_with fail
  refine (set_fr w1 _ b 3 _ 0 1 7 h1).mono ?_
  rintro e w2 ⟨rfl, h2, m2⟩
  have b2 := b1.trans (h1.bl b1.size m2)
  have e2 : gtE 3 0 1 = 0 := by decide
  rw [e2]
  go_wp2_with fail
  refine (copy_fr w2 _ b 3 _ 0 2 h2).mono ?_
  rintro e w3 ⟨rfl, h3, m3⟩
  have b3 := b2.trans (h2.bl b2.size m3)
  have e3 : cpE 3 0 2 = 0 := by decide
  rw [e3]
  go_wp2_with fail
  refine (get_fr w3 _ b 3 _ 2 1 h3).mono ?_
  rintro e w4 ⟨rfl, m4⟩
  have b4 := b3.trans (m4.mono b3.size)
  have h4 := h3.quiet m4
  have e4 : gtE 3 2 1 = 0 := by decide
  have v4 : gtV 3 (cpX 3 (stX 3 (zeros 3) 0 1 7) 0 2) 2 1 = 7 := by decide
  rw [e4, v4]
  go_wp2_with fail
  refine (page_fr w4 _ b 3 _ 2 h4).mono ?_
  rintro e w5 ⟨rfl, m5⟩
  have b5 := b4.trans (m5.mono b4.size)
  have h5 := h4.quiet m5
  have e5 : pgE 3 2 = 0 := by decide
  have v5 : (pgS 3 (cpX 3 (stX 3 (zeros 3) 0 1 7) 0 2) 2).size = 16 := by decide
  rw [e5]
  generalize pgS 3 (cpX 3 (stX 3 (zeros 3) 0 1 7) 0 2) 2 = pg at v5
  have bc7 : bc 7 = .int .u8 7 := rfl
  rw [bc7]
  have v6 : ((pg.size : Int) == 16) = true := by rw [v5]; rfl
  clear h1 h2 h3 h4 m2 m3 m4 m5 b1 b2 b3 b4 e2 e3 e4 e5 v4 v5
  go_wp2_with fail
  refine (flen w5 _ b 3 _ h5).mono ?_
  rintro e w6 ⟨rfl, rfl⟩
  go_wp2
  go_ret
  exact ⟨rfl, b5⟩
end Go.Proofs.Ytjibphpkebcoeaa
