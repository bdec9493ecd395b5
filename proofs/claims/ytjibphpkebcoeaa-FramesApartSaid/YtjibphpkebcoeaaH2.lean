/- The reference's frames: Page, Set, Load, Copy. -/
import Derived.Test.YtjibphpkebcoeaaH1
set_option linter.all false
namespace Go.Proofs.Ytjibphpkebcoeaa
open Go.RowKit

theorem conv_rm {w : World} {N L : Nat} {cur : Array Value} {xs : List UInt8} (hN : Blk w N 5 cur) (hL : xs.length = L) (hc : ∀ i, i < L → cur[i]? = (bcs xs)[i]?) (o n : Nat) (h : o + n ≤ L) (c : Nat) :
    (CVB (.slice (some ⟨N, o, none⟩) n c)).run Try.prog w = .ok (.string ⟨((xs.drop o).take n).toArray⟩) w := by
  have := run_convert_bytes_arg (P := Try.prog) w 92 5 Try.underlying92 (by kernel_rfl) N o n c (((xs.drop o).take n).map fun x => (x.toNat : Int)) (by simp; omega) (fun i hi => by
    rw [hN.cell, hc _ (by omega), bcs_get, List.getElem?_eq_getElem (by omega)]
    have e : (((xs.drop o).take n).map fun x => (x.toNat : Int)).getD i 0 = (xs[o + i].toNat : Int) := by
      simp [List.getD, List.getElem?_take, hi, List.getElem?_drop, List.getElem?_eq_getElem (show o + i < xs.length by omega)]
    rw [e]
    rfl) 9 (by kernel_rfl)
  have e : strOfNums (((xs.drop o).take n).map fun x => (x.toNat : Int)) = ⟨((xs.drop o).take n).toArray⟩ := by
    have e0 : ((fun n : Int => UInt8.ofNat n.toNat) ∘ fun x : UInt8 => (x.toNat : Int)) = id := by funext x; simp
    simp [strOfNums, e0]
  rw [e] at this
  exact this
attribute [local go_sem ↓] CVB_eq
set_option maxHeartbeats 1600000 in
set_option maxRecDepth 100000 in
theorem rpage (w : World) (B b n : Nat) (xs : List UInt8) (f : Int) (h : RM w B b n xs) :
    Calls Try.prog 28 #[.pointer (some ⟨b, 0, none⟩), .int .i64 f] w fun e w' => e = .returned (.tuple #[.string (pgS n xs f), .int .i64 (pgE n f)]) ∧ w = w' := by
  by_cases hf : fw n f = true
  · have e1 : pgS n xs f = ByteArray.empty := by simp [pgS, hf]
    have e2 : pgE n f = 6 := by simp [pgE, hf]
    rw [e1, e2]
    have e3 : (!fw n f) = false := by simp [hf]
    have E3 := Lib.hid e3
    clear e1 e2 e3 hf
    go_enter Try.func28, Try.ntmps28
    go_wp2_with (go_at_call 45; refine (ris w B b n xs f h).mono ?_; rintro e w' ⟨rfl, rfl⟩; rw [E3.out])
    go_ret2
    exact ⟨rfl, rfl⟩
  have hf' : fw n f = false := by simpa using hf
  have e3 : (!fw n f) = true := by simp [hf']
  have E3 := Lib.hid e3
  obtain ⟨k, rfl, hk⟩ := fw_no hf'
  have e1 : pgS n xs k = ⟨(pgL xs k).toArray⟩ := by simp [pgS, hf']
  have e2 : pgE n k = 0 := by simp [pgE, hf']
  rw [e1, e2]
  have h0 := h
  obtain ⟨_, hpos, hlen, g, cap, cur, hb, hg, _, h5, hc⟩ := h
  have C1 : ∀ c, _ := fun c => conv_rm hg hlen hc (k * 16) 16 (by omega) c
  have C2 : ∀ c, (CVB (.slice (some ⟨g, 16 * k, none⟩) 16 c)).run Try.prog w = .ok (.string ⟨(pgL xs k).toArray⟩) w := by
    intro c; rw [Nat.mul_comm 16 k]; exact C1 c
  clear C1
  generalize (⟨(pgL xs k).toArray⟩ : ByteArray) = px at C2
  have k0 := hb.cell 0
  simp at k0
  have hi : (16 * (k : Int)).toNat = 16 * k := by omega
  clear e1 e2 e3 hf hf' hc hg hb
  go_enter Try.func28, Try.ntmps28
  go_wp2_with (go_at_call 45; refine (ris w B b n xs k h0).mono ?_; rintro e w' ⟨rfl, rfl⟩; rw [E3.out])
  go_ret2
  exact ⟨rfl, rfl⟩

set_option maxHeartbeats 1600000 in
set_option maxRecDepth 100000 in
theorem rset (w : World) (B b n : Nat) (xs : List UInt8) (f at_ : Int) (x : UInt8) (h : RM w B b n xs) :
    Calls Try.prog 41 #[.pointer (some ⟨b, 0, none⟩), .int .i64 f, .int .i64 at_, bc x] w fun e w' => e = .returned (.int .i64 (gtE n f at_)) ∧ RM w' B b n (stX n xs f at_ x) ∧ Mod (RO w B b) w w' := by
  by_cases hf : fw n f = true
  · have e1 : stX n xs f at_ x = xs := by simp [stX, hf]
    have e2 : gtE n f at_ = 6 := by simp [gtE, hf]
    rw [e1]
    have E2 := Lib.hid e2
    rw [e2]
    clear e1 e2 hf
    unfold bc
    go_enter Try.func41, Try.ntmps41
    go_wp2_with (go_at_call 27; refine (rget w B b n xs f at_ h).mono ?_; rintro e w' ⟨rfl, rfl⟩; rw [E2.out]; unfold bc)
    go_ret
    exact ⟨rfl, h, Mod.refl _ _⟩
  have hf' : fw n f = false := by simpa using hf
  by_cases ha : at_ < 0 ∨ 16 ≤ at_
  · have e1 : stX n xs f at_ x = xs := by simp [stX, hf', ha]
    have e2 : gtE n f at_ = 1 := by simp [gtE, hf', ha]
    rw [e1]
    have E2 := Lib.hid e2
    rw [e2]
    clear e1 e2 hf hf' ha
    unfold bc
    go_enter Try.func41, Try.ntmps41
    go_wp2_with (go_at_call 27; refine (rget w B b n xs f at_ h).mono ?_; rintro e w' ⟨rfl, rfl⟩; rw [E2.out]; unfold bc)
    go_ret
    exact ⟨rfl, h, Mod.refl _ _⟩
  obtain ⟨k, rfl, hk⟩ := fw_no hf'
  obtain ⟨j, rfl⟩ := Int.eq_ofNat_of_zero_le (show 0 ≤ at_ by omega)
  have hj : j < 16 := by omega
  have e1 : stX n xs k j x = xs.set (16 * k + j) x := by simp [stX, hf', ha, Nat.mul_comm]
  have e2 : gtE n k j = 0 := by simp [gtE, hf', ha]
  rw [e1]
  have E2 := Lib.hid e2
  rw [e2]
  have h0 := h
  obtain ⟨_, hpos, hlen, g, cap, cur, hb, hg, hBg, h5, hc⟩ := h
  have c0 := hg.cell (16 * k + j)
  have f0 := hg.frozen (16 * k + j)
  have hlt : 16 * k + j < xs.length := by omega
  rw [hc _ (by omega), bcs_get, List.getElem?_eq_getElem hlt, Option.map_some] at c0
  generalize bc xs[16 * k + j] = y at c0
  have k0 := hb.cell 0
  simp at k0
  have hi : ((16 * (k : Int) + (j : Int))).toNat = 16 * k + j := by omega
  have HF := Lib.hid (RM.put h0 hb (16 * k + j) x)
  have hM : ∀ u, Mod (RO w B b) w (w.setCell ⟨g, 16 * k + j, none⟩ u) := fun u => (Mod.refl _ w).setCell (.inl (.inr ⟨hBg, _, hg⟩)) u
  have HM := Lib.hid hM
  clear e1 e2 hf hf' ha hc hg hb hM
  unfold bc at HF ⊢
  go_enter Try.func41, Try.ntmps41
  go_wp2_with (go_at_call 27; refine (rget w B b n xs k j h0).mono ?_; rintro e w' ⟨rfl, rfl⟩; rw [E2.out]; unfold bc)
  go_ret
  exact ⟨rfl, HF.out.1, HM.out _⟩
end Go.Proofs.Ytjibphpkebcoeaa
