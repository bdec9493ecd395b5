/- Frames: spot, Get, Set. -/
import Derived.Test.YtjibphpkebcoeaaF1
set_option linter.all false
namespace Go.Proofs.Ytjibphpkebcoeaa
open Go.RowKit

theorem inp_one (w : World) (f : Int) : Inp (w.alloc (.cells #[.int .i64 f] 3)) (w.alloc (.cells #[.int .i64 f] 3)).heap.size (.slice (some ⟨w.heap.size, 0, none⟩) 1 1) [f].length 1 (atl ic [f]) := by
  refine ⟨by simp [maxLen], _, 1, rfl, fun _ => ⟨w.heap.size, 0, rfl, by simp, fun i hi j hj => ?_⟩⟩
  have hb := Blk.new w 3 #[.int .i64 f]
  rw [hb.cell]
  have hi' : i = 0 := by simp at hi; omega
  have hj' : j = 0 := by omega
  subst hi'; subst hj'
  rfl
theorem inp_two (w : World) (f g : Int) : Inp (w.alloc (.cells #[.int .i64 f, .int .i64 g] 3)) (w.alloc (.cells #[.int .i64 f, .int .i64 g] 3)).heap.size (.slice (some ⟨w.heap.size, 0, none⟩) 2 2) [f, g].length 1 (atl ic [f, g]) := by
  refine ⟨by simp [maxLen], _, 2, rfl, fun _ => ⟨w.heap.size, 0, rfl, by simp, fun i hi j hj => ?_⟩⟩
  have hb := Blk.new w 3 #[.int .i64 f, .int .i64 g]
  rw [hb.cell]
  have hi' : i = 0 ∨ i = 1 := by simp at hi; omega
  have hj' : j = 0 := by omega
  subst hj'
  rcases hi' with rfl | rfl <;> rfl
theorem fwE_1 (n : Nat) (f : Int) : fwE n [f] = if fw n f then 6 else 0 := by simp [fwE]
theorem alloc_below (w : World) (o : Obj) : Below w.heap.size w (w.alloc o) := (Below.refl _ _).alloc (Nat.le_refl _) o

set_option maxHeartbeats 800000 in
theorem spot_frame (w : World) (p : Value) (n : Nat) (f at_ : Int) (h : FP w p n) (hf : fw n f = true) :
    Calls Try.prog 44 #[p, .int .i64 f, .int .i64 at_] w fun e w' => e = .returned (.tuple #[.pointer none, .int .i64 6]) ∧ Below w.heap.size w w' := by
  have hb := alloc_below w (.cells #[.int .i64 f] 3)
  have h1 := h.quiet hb
  have hi := inp_one w f
  have he : fwE n [f] = 6 := by simp [fwE_1, hf]
  have HE := Lib.hid he
  clear h he hf
  go_enter Try.func44, Try.ntmps44
  go_wp2_with (go_at_call 40; refine (wrong_any _ _ _ n [f] h1 hi (by simp)).mono ?_; rintro e w' ⟨rfl, rfl⟩; rw [HE.out])
  go_ret2
  exact ⟨rfl, hb⟩
set_option maxHeartbeats 800000 in
theorem spot_at (w : World) (p : Value) (n : Nat) (f at_ : Int) (h : FP w p n) (hf : fw n f = false) (ha : at_ < 0 ∨ 16 ≤ at_) :
    Calls Try.prog 44 #[p, .int .i64 f, .int .i64 at_] w fun e w' => e = .returned (.tuple #[.pointer none, .int .i64 1]) ∧ Below w.heap.size w w' := by
  have hb := alloc_below w (.cells #[.int .i64 f] 3)
  have h1 := h.quiet hb
  have hi := inp_one w f
  have he : fwE n [f] = 0 := by simp [fwE_1, hf]
  have HE := Lib.hid he
  clear h he hf
  rcases ha with ha | ha
  · have e0 : decide (at_ < 0) = true := by simpa using ha
    go_enter Try.func44, Try.ntmps44
    go_wp2_with (go_at_call 40; refine (wrong_any _ _ _ n [f] h1 hi (by simp)).mono ?_; rintro e w' ⟨rfl, rfl⟩; rw [HE.out])
    go_ret2
    exact ⟨rfl, hb⟩
  · have e0 : decide (at_ < 0) = false := by simp; omega
    have e1 : decide (16 ≤ at_) = true := by simpa using ha
    go_enter Try.func44, Try.ntmps44
    go_wp2_with (go_at_call 40; refine (wrong_any _ _ _ n [f] h1 hi (by simp)).mono ?_; rintro e w' ⟨rfl, rfl⟩; rw [HE.out])
    go_ret2
    exact ⟨rfl, hb⟩
set_option maxHeartbeats 800000 in
theorem spot_ok (w : World) (B b n g : Nat) (xs : List UInt8) (f at_ : Nat) (h : FR w B b n xs) (hg : Blk w b 88 #[.slice (some ⟨g, 0, none⟩) n n]) (hf : f < n) (ha : at_ < 16) :
    Calls Try.prog 44 #[.pointer (some ⟨b, 0, none⟩), .int .i64 f, .int .i64 at_] w fun e w' => e = .returned (.tuple #[.pointer (some ⟨g, f * 16 + at_, none⟩), .int .i64 0]) ∧ w' = w.alloc (.cells #[.int .i64 f] 3) := by
  have hb := alloc_below w (.cells #[.int .i64 f] 3)
  have hfr := h.quiet hb
  have h1 : FP (w.alloc (.cells #[.int .i64 f] 3)) (.pointer (some ⟨b, 0, none⟩)) n := .inr ⟨B, b, xs, rfl, hfr⟩
  have hi := inp_one w f
  have he : fwE n [(f : Int)] = 0 := by simp [fwE_1, fw]; omega
  have HE := Lib.hid he
  have k0 := hg.cell 0
  have hl := hg.lt
  have e0 : decide ((at_ : Int) < 0) = false := by simp
  have e1 : decide (16 ≤ (at_ : Int)) = false := by simp; omega
  have hn := h.pos
  simp at k0
  clear h he hg hfr
  go_enter Try.func44, Try.ntmps44
  go_wp2_with (go_at_call 40; refine (wrong_any _ _ _ n [(f : Int)] h1 hi (by simp)).mono ?_; rintro e w' ⟨rfl, rfl⟩; rw [HE.out])
  go_ret2
  exact ⟨rfl, rfl⟩

def gtE (n : Nat) (f at_ : Int) : Int := if fw n f then 6 else if at_ < 0 ∨ 16 ≤ at_ then 1 else 0
def gtV (n : Nat) (xs : List UInt8) (f at_ : Int) : UInt8 := if fw n f then 0 else if at_ < 0 ∨ 16 ≤ at_ then 0 else xs.getD (f.toNat * 16 + at_.toNat) 0
def stX (n : Nat) (xs : List UInt8) (f at_ : Int) (x : UInt8) : List UInt8 := if fw n f then xs else if at_ < 0 ∨ 16 ≤ at_ then xs else xs.set (f.toNat * 16 + at_.toNat) x
theorem fw_no {n : Nat} {f : Int} (h : fw n f = false) : ∃ k : Nat, f = k ∧ k < n := by
  simp [fw] at h
  exact ⟨f.toNat, by omega, by omega⟩

set_option maxHeartbeats 800000 in
theorem get_nil (w : World) (f at_ : Int) :
    Calls Try.prog 26 #[.pointer none, .int .i64 f, .int .i64 at_] w fun e w' => e = .returned (.tuple #[.int .u8 0, .int .i64 6]) ∧ Below w.heap.size w w' := by
  have hf : fw 0 f = true := by simp [fw]; omega
  go_enter Try.func26, Try.ntmps26
  go_wp2_with (go_at_call 44; refine (spot_frame w _ 0 f at_ (.inl ⟨rfl, rfl⟩) hf).mono ?_; rintro e w' ⟨rfl, hb⟩)
  go_ret2
  exact ⟨rfl, hb⟩
set_option maxHeartbeats 800000 in
theorem get_fr (w : World) (B b n : Nat) (xs : List UInt8) (f at_ : Int) (h : FR w B b n xs) :
    Calls Try.prog 26 #[.pointer (some ⟨b, 0, none⟩), .int .i64 f, .int .i64 at_] w fun e w' => e = .returned (.tuple #[bc (gtV n xs f at_), .int .i64 (gtE n f at_)]) ∧ Below w.heap.size w w' := by
  have hp : FP w (.pointer (some ⟨b, 0, none⟩)) n := .inr ⟨B, b, xs, rfl, h⟩
  by_cases hf : fw n f = true
  · have e1 : gtV n xs f at_ = 0 := by simp [gtV, hf]
    have e2 : gtE n f at_ = 6 := by simp [gtE, hf]
    rw [e1, e2]
    go_enter Try.func26, Try.ntmps26
    go_wp2_with (go_at_call 44; refine (spot_frame w _ n f at_ hp hf).mono ?_; rintro e w' ⟨rfl, hb⟩)
    go_ret2
    exact ⟨rfl, hb⟩
  have hf' : fw n f = false := by simpa using hf
  by_cases ha : at_ < 0 ∨ 16 ≤ at_
  · have e1 : gtV n xs f at_ = 0 := by simp [gtV, hf', ha]
    have e2 : gtE n f at_ = 1 := by simp [gtE, hf', ha]
    rw [e1, e2]
    go_enter Try.func26, Try.ntmps26
    go_wp2_with (go_at_call 44; refine (spot_at w _ n f at_ hp hf' ha).mono ?_; rintro e w' ⟨rfl, hb⟩)
    go_ret2
    exact ⟨rfl, hb⟩
  obtain ⟨k, rfl, hk⟩ := fw_no hf'
  obtain ⟨j, rfl⟩ := Int.eq_ofNat_of_zero_le (show 0 ≤ at_ by omega)
  have hj : j < 16 := by omega
  have e1 : gtV n xs k j = xs.getD (k * 16 + j) 0 := by simp [gtV, hf', ha]
  have e2 : gtE n k j = 0 := by simp [gtE, hf', ha]
  rw [e1, e2]
  obtain ⟨_, _, hlen, g, hb, hg, _⟩ := h
  have c0 := hg.cell (k * 16 + j)
  have hlt : k * 16 + j < xs.length := by omega
  rw [bcs_get, List.getElem?_eq_getElem hlt, Option.map_some] at c0
  have ev : xs.getD (k * 16 + j) 0 = xs[k * 16 + j] := by simp [List.getD, List.getElem?_eq_getElem hlt]
  rw [ev]
  generalize xs[k * 16 + j] = x at c0
  unfold bc at c0 ⊢
  have hl := hg.lt
  have hbl := alloc_below w (.cells #[.int .i64 k] 3)
  clear e1 e2 hf hf' ha ev
  have hfr : FR w B b n xs := ⟨‹_›, ‹_›, hlen, g, hb, hg, ‹_›⟩
  have HB := Lib.hid hb
  clear hb
  go_enter Try.func26, Try.ntmps26
  go_wp2_with (go_at_call 44; refine (spot_ok w B b n g xs k j hfr HB.out hk hj).mono ?_; rintro e w' ⟨rfl, rfl⟩)
  go_ret2
  exact ⟨rfl, hbl⟩
end Go.Proofs.Ytjibphpkebcoeaa
