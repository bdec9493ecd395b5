/- FramesBack, the walk. -/
import Derived.Test.YtjibphpkebcoeaaF6
set_option linter.all false
namespace Go.Proofs.Ytjibphpkebcoeaa
open Go.RowKit

theorem pgL_setL {xs ys : List UInt8} {n k : Nat} (h : xs.length = 16 * n) (hk : k < n) (hy : ys.length = 16) : pgL (setL xs (k * 16) ys) k = ys := by
  rw [setL_eq ys xs _ (by omega), pgL]
  have h1 : (xs.take (k * 16)).length = k * 16 := by rw [List.length_take]; omega
  rw [List.append_assoc, List.drop_append_of_le_length (by omega)]
  rw [List.drop_of_length_le (by omega), List.nil_append, List.take_append_of_le_length (by omega), List.take_of_length_le (by omega)]
theorem padL_eq {s : ByteArray} (h : s.size ≤ 16) : padL s = s.data.toList ++ List.replicate (16 - s.size) 0 := by
  have hl : s.data.toList.length = s.size := by simp
  rw [padL, setL_eq _ _ 0 (by rw [hl]; show 0 + s.size ≤ 16; omega), List.take_zero, List.nil_append, hl]
  congr 1
  rw [Nat.zero_add, zeroL, List.drop_replicate]
theorem pad_take {s : ByteArray} (h : s.size ≤ 16) : (⟨(padL s).toArray⟩ : ByteArray).extract 0 s.size = s := by
  apply ByteArray.ext
  rw [ByteArray.data_extract, padL_eq h]
  apply Array.ext'
  simp
theorem pad_size (s : ByteArray) : (⟨(padL s).toArray⟩ : ByteArray).size = 16 := by
  show (padL s).toArray.size = 16
  rw [List.size_toArray, padL_len]
theorem pad_zero {s : ByteArray} (h : s.size ≤ 16) (i : Nat) (hi : s.size ≤ i) (h2 : i < (⟨(padL s).toArray⟩ : ByteArray).size) : (⟨(padL s).toArray⟩ : ByteArray)[i] = 0 := by
  have hl : s.data.toList.length = s.size := by simp
  have h16 : i < 16 := by rw [pad_size] at h2; exact h2
  have e : (padL s)[i]? = some 0 := by
    rw [padL_eq h, List.getElem?_append_right (by omega), List.getElem?_replicate, if_pos (by omega)]
  show (padL s).toArray[i] = 0
  simp only [List.getElem_toArray]
  exact (List.getElem?_eq_some_iff.1 e).2

set_option maxHeartbeats 3200000 in
set_option maxRecDepth 100000 in
theorem framesBack_any (s : ByteArray) (a b : Int) (w : World) :
    Calls Try.prog 4 #[.string s, .int .i64 a, .int .i64 b] w fun e w' => e = .returned (.bool true) ∧ Below w.heap.size w w' := by
  go_enter Try.func4, Try.ntmps4
  go_wp2_with fail
  refine (fnew_ok w w.heap.size 8 (Nat.le_refl _) (by omega) (by omega)).mono ?_
  rintro e w1 ⟨m, rfl, h1, b1⟩
  by_cases hs : 100 < s.size
  · have e0 : decide (100 < (s.size : Int)) = true := by simp; omega
    clear hs
    go_wp2_with fail
    refine (seven_any _).mono ?_
    rintro e w9 ⟨rfl, b9⟩
    have t9 := b1.trans (b9.mono b1.size)
    clear b9 b1 h1
    go_wp2
    go_ret
    exact ⟨rfl, t9⟩
  have e0 : decide (100 < (s.size : Int)) = false := by simp; omega
  go_wp2_with fail
  refine (fload_fr w1 _ m 8 _ a s h1).mono ?_
  rintro e w2 ⟨rfl, h2, m2⟩
  have b2 := b1.trans (h1.bl b1.size m2)
  by_cases ha : a < 0 ∨ 7 < a
  · have hf : fw 8 a = true := by simp [fw]; omega
    have e1 : ldE 8 a s = 6 := by simp [ldE, hf]
    rw [e1]
    rcases ha with ha | ha
    · have e2 : decide (a < 0) = true := by simpa using ha
      clear ha hs hf e1 h1 m2 b1 h2
      go_wp2_with fail
      refine (seven_any _).mono ?_
      rintro e w9 ⟨rfl, b9⟩
      have t9 := b2.trans (b9.mono b2.size)
      clear b9 b2
      go_wp2
      go_ret
      exact ⟨rfl, t9⟩
    · have e2 : decide (a < 0) = false := by simp; omega
      have e3 : decide (7 < a) = true := by simpa using ha
      clear ha hs hf e1 h1 m2 b1 h2
      go_wp2_with fail
      refine (seven_any _).mono ?_
      rintro e w9 ⟨rfl, b9⟩
      have t9 := b2.trans (b9.mono b2.size)
      clear b9 b2
      go_wp2
      go_ret
      exact ⟨rfl, t9⟩
  have hf : fw 8 a = false := by simp [fw]; omega
  have a1 : decide (a < 0) = false := by simp; omega
  have a2 : decide (7 < a) = false := by simp; omega
  by_cases hs2 : 16 < s.size
  · have e1 : ldE 8 a s = 2 := by simp [ldE, hf, hs2]
    rw [e1]
    have e2 : decide (16 < (s.size : Int)) = true := by simp; omega
    clear ha hs hf e1 h1 m2 b1 h2 hs2
    go_wp2_with fail
    refine (seven_any _).mono ?_
    rintro e w9 ⟨rfl, b9⟩
    have t9 := b2.trans (b9.mono b2.size)
    clear b9 b2
    go_wp2
    go_ret
    exact ⟨rfl, t9⟩
  obtain ⟨k, rfl, hk⟩ := fw_no hf
  have e1 : ldE 8 k s = 0 := by simp [ldE, hf, hs2]
  have x1 : ldX 8 (zeros 8) k s = setL (zeros 8) (k * 16) (padL s) := by simp [ldX, hf, hs2]
  rw [e1]
  rw [x1] at h2
  have e2 : decide (16 < (s.size : Int)) = false := by simp; omega
  have hs16 : s.size ≤ 16 := by omega
  have hpl := padL_len s
  have hp1 : pgL (setL (zeros 8) (k * 16) (padL s)) k = padL s := pgL_setL (n := 8) (by simp [zeros]) hk hpl
  have hS : pgS 8 (setL (zeros 8) (k * 16) (padL s)) k = ⟨(padL s).toArray⟩ := by simp [pgS, hf, hp1]
  have hE : pgE 8 k = 0 := by simp [pgE, hf]
  clear ha hs e1 x1 h1 m2 b1
  go_wp2_with fail
  refine (page_fr w2 _ m 8 _ k h2).mono ?_
  rintro e w3 ⟨rfl, b3⟩
  rw [hS, hE]
  have h3 := h2.quiet b3
  have t3 := b2.trans (b3.mono b2.size)
  have x1 := pad_take hs16
  have x2 := pad_size s
  have x3 := pad_zero hs16
  have X3 := Lib.hid x3
  have hpx := hp1
  have HPX := Lib.hid hp1
  clear x3 hpx hp1 h2 b3 b2 hS hE
  obtain ⟨px, hpx⟩ : ∃ px, (⟨(padL s).toArray⟩ : ByteArray) = px := ⟨_, rfl⟩
  have HPD := Lib.hid hpx
  rw [hpx] at x1 x2 X3 ⊢
  clear hpx
  have X1 := Lib.hid x1
  have x4 : ((px.size : Int) != 16) = false := by rw [x2]; rfl
  have x5 : (s.size : Int) ≤ (px.size : Int) := by rw [x2]; omega
  have X2 := Lib.hid x2
  clear x1 x2
  have x6 : ((px.extract 0 s.size).toList == s.toList) = true := by rw [X1.out]; simp
  go_wp2_with fail
  go_loop [12] (fun i => ∃ j : Nat, s.size ≤ j ∧ j ≤ 16 ∧ i = .int .i64 j) (fun i => 16 - (intOf i).toNat)
  case atStart => exact ⟨s.size, by omega, hs16, rfl⟩
  case round =>
    obtain ⟨j, hj1, hj2, rfl⟩ := hrel
    by_cases hlt : j < 16
    · have hjp : j < px.size := by rw [X2.out]; exact hlt
      have hv := X3.out j hj1 hjp
      have hlt' : (j : Int) < 16 := by omega
      have hjp' : (j : Int) < (px.size : Int) := by omega
      clear x4 x5 x6
      go_wp2
      go_round
      case rel => exact ⟨j + 1, by omega, by omega, by go_num⟩
      case measure => simp [intOf]; omega
    · have hge : (16 : Int) ≤ (j : Int) := by omega
      clear hlt x4 x5 x6 X1 X2 X3
      by_cases hb : b < 0 ∨ 7 < b
      · rcases hb with hb | hb
        · have e5 : decide (b < 0) = true := by simpa using hb
          clear hb
          go_wp2_with fail
          refine (seven_any _).mono ?_
          rintro e w9 ⟨rfl, b9⟩
          have t9 := t3.trans (b9.mono t3.size)
          clear b9 t3 h3
          go_wp2
          go_ret
          exact ⟨rfl, t9⟩
        · have e5 : decide (b < 0) = false := by simp; omega
          have e6 : decide (7 < b) = true := by simpa using hb
          clear hb
          go_wp2_with fail
          refine (seven_any _).mono ?_
          rintro e w9 ⟨rfl, b9⟩
          have t9 := t3.trans (b9.mono t3.size)
          clear b9 t3 h3
          go_wp2
          go_ret
          exact ⟨rfl, t9⟩
      have hfb : fw 8 b = false := by simp [fw]; omega
      have e5 : decide (b < 0) = false := by simp; omega
      have e6 : decide (7 < b) = false := by simp; omega
      obtain ⟨i, rfl, hi⟩ := fw_no hfb
      have hce : fwE 8 [(k : Int), (i : Int)] = 0 := by simp [fwE, hf, hfb]
      have hcx : cpX 8 (setL (zeros 8) (k * 16) (padL s)) k i = setL (setL (zeros 8) (k * 16) (padL s)) (i * 16) (padL s) := by
        simp only [cpX, hce, Int.toNat_natCast, HPX.out]; rfl
      have hce2 : cpE 8 k i = 0 := hce
      have hp2 : pgL (setL (setL (zeros 8) (k * 16) (padL s)) (i * 16) (padL s)) i = padL s := pgL_setL (n := 8) (by rw [setL_len]; simp [zeros]) hi hpl
      have hS2 : pgS 8 (setL (setL (zeros 8) (k * 16) (padL s)) (i * 16) (padL s)) i = px := by rw [← HPD.out]; simp [pgS, hfb, hp2]
      have hE2 : pgE 8 i = 0 := by simp [pgE, hfb]
      clear hb hp2 hf hfb hs2
      go_wp2_with fail
      refine (copy_fr w3 _ m 8 _ k i h3).mono ?_
      rintro e w4 ⟨rfl, h4, m4⟩
      have t4 := t3.trans (h3.bl t3.size m4)
      rw [hcx] at h4
      rw [hce2]
      clear hcx hce hce2 m4 t3 h3
      go_wp2_with fail
      refine (page_fr w4 _ m 8 _ i h4).mono ?_
      rintro e w5 ⟨rfl, b5⟩
      rw [hS2, hE2]
      have t5 := t4.trans (b5.mono t4.size)
      clear hS2 hE2 b5 t4 h4
      go_wp2_with fail
      refine (seven_any _).mono ?_
      rintro e w9 ⟨rfl, b9⟩
      have t9 := t5.trans (b9.mono t5.size)
      clear b9 t5
      go_wp2
      go_ret
      exact ⟨rfl, t9⟩
end Go.Proofs.Ytjibphpkebcoeaa
