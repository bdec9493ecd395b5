/- Frames: Clear, Page, New. -/
import Derived.Test.YtjibphpkebcoeaaF4
set_option linter.all false
namespace Go.Proofs.Ytjibphpkebcoeaa
open Go.RowKit

theorem setL_eq (ys : List UInt8) : ∀ (xs : List UInt8) (o : Nat), o + ys.length ≤ xs.length → setL xs o ys = xs.take o ++ ys ++ xs.drop (o + ys.length) := by
  induction ys with
  | nil => intro xs o h; simp [setL]
  | cons y r ih =>
    intro xs o h
    simp only [List.length_cons] at h
    rw [setL, ih _ _ (by rw [List.length_set]; omega)]
    have h1 : (xs.set o y).take (o + 1) = xs.take o ++ [y] := by
      rw [List.take_succ, List.take_set_of_le (by omega)]
      simp [List.getElem?_set_self (show o < xs.length by omega)]
    have h2 : (xs.set o y).drop (o + 1 + r.length) = xs.drop (o + (r.length + 1)) := by
      rw [List.drop_set_of_lt (by omega)]
      congr 1
      omega
    rw [h1, h2]
    simp
theorem setL_all {xs ys : List UInt8} (h : ys.length = xs.length) : setL xs 0 ys = ys := by
  rw [setL_eq ys xs 0 (by omega)]
  simp; omega
noncomputable def CVB (v : Value) : Sem Value := convert 92 9 v
theorem CVB_eq (v : Value) : convert 92 9 v = CVB v := rfl
theorem conv_run {w : World} {N : Nat} {ys : List UInt8} (hN : Blk w N 91 (bcs ys)) (o n : Nat) (h : o + n ≤ ys.length) (c : Nat) :
    (CVB (.slice (some ⟨N, o, none⟩) n c)).run Try.prog w = .ok (.string ⟨((ys.drop o).take n).toArray⟩) w := by
  have := run_convert_bytes_arg (P := Try.prog) w 92 5 Try.underlying92 (by kernel_rfl) N o n c (((ys.drop o).take n).map fun x => (x.toNat : Int)) (by simp; omega) (fun i hi => by
    rw [hN.cell, bcs_get, List.getElem?_eq_getElem (by omega)]
    have e : (((ys.drop o).take n).map fun x => (x.toNat : Int)).getD i 0 = (ys[o + i].toNat : Int) := by
      simp [List.getD, List.getElem?_take, hi, List.getElem?_drop, List.getElem?_eq_getElem (show o + i < ys.length by omega)]
    rw [e]
    rfl) 9 (by kernel_rfl)
  have e : strOfNums (((ys.drop o).take n).map fun x => (x.toNat : Int)) = ⟨((ys.drop o).take n).toArray⟩ := by
    have e0 : ((fun n : Int => UInt8.ofNat n.toNat) ∘ fun x : UInt8 => (x.toNat : Int)) = id := by funext x; simp
    simp [strOfNums, e0]
  rw [e] at this
  exact this
theorem store_all {w : World} {N : Nat} {xs ys : List UInt8} (hg : Blk w N 91 (bcs xs)) (h : xs.length = 16) (hy : ys.length = 16) :
    (ST91 (.pointer (some ⟨N, 0, none⟩)) (.agg (ys.map bc).toArray)).run Try.prog w = .ok () (w.setCells N 0 (ys.map bc)) := by
  have := store_pg (n := 1) (f := 0) hg (by omega) (by omega) hy
  simpa using this

attribute [local go_sem ↓] LD91_eq ST91_eq CPY_eq CVB_eq
theorem fclear_bad (w : World) (p : Value) (n : Nat) (f : Int) (h : FP w p n) (hf : fw n f = true) :
    Calls Try.prog 31 #[p, .int .i64 f] w fun e w' => e = .returned (.int .i64 6) ∧ Below w.heap.size w w' := by
  go_enter Try.func31, Try.ntmps31
  go_wp2_with (go_at_call 20; refine (fload_bad w p n f _ h hf).mono ?_; rintro e w' ⟨rfl, hb⟩)
  go_ret
  exact ⟨rfl, hb⟩
set_option maxHeartbeats 800000 in
theorem fclear_fr (w : World) (B b n : Nat) (xs : List UInt8) (f : Int) (h : FR w B b n xs) :
    Calls Try.prog 31 #[.pointer (some ⟨b, 0, none⟩), .int .i64 f] w fun e w' => e = .returned (.int .i64 (ldE n f ByteArray.empty)) ∧ FR w' B b n (ldX n xs f ByteArray.empty) ∧ Mod (FO w B b) w w' := by
  go_enter Try.func31, Try.ntmps31
  go_wp2_with (go_at_call 20; refine (fload_fr w B b n xs f _ h).mono ?_; rintro e w' ⟨rfl, h1, h2⟩)
  go_ret
  exact ⟨rfl, h1, h2⟩

def pgE (n : Nat) (f : Int) : Int := if fw n f then 6 else 0
def pgS (n : Nat) (xs : List UInt8) (f : Int) : ByteArray := if fw n f then ByteArray.empty else ⟨(pgL xs f.toNat).toArray⟩
set_option maxHeartbeats 800000 in
theorem page_bad (w : World) (p : Value) (n : Nat) (f : Int) (h : FP w p n) (hf : fw n f = true) :
    Calls Try.prog 21 #[p, .int .i64 f] w fun e w' => e = .returned (.tuple #[.string ByteArray.empty, .int .i64 6]) ∧ Below w.heap.size w w' := by
  have hb := alloc_below w (.cells #[.int .i64 f] 3)
  have h1 := h.quiet hb
  have hi := inp_one w f
  have he : fwE n [f] = 6 := by simp [fwE_1, hf]
  have HE := Lib.hid he
  clear h he hf
  go_enter Try.func21, Try.ntmps21
  go_wp2_with (go_at_call 40; refine (wrong_any _ _ _ n [f] h1 hi (by simp)).mono ?_; rintro e w' ⟨rfl, rfl⟩; rw [HE.out])
  go_ret2
  exact ⟨rfl, hb⟩
set_option maxHeartbeats 3200000 in
set_option maxRecDepth 100000 in
theorem page_fr (w : World) (B b n : Nat) (xs : List UInt8) (f : Int) (h : FR w B b n xs) :
    Calls Try.prog 21 #[.pointer (some ⟨b, 0, none⟩), .int .i64 f] w fun e w' => e = .returned (.tuple #[.string (pgS n xs f), .int .i64 (pgE n f)]) ∧ Below w.heap.size w w' := by
  by_cases hf : fw n f = true
  · have e1 : pgS n xs f = ByteArray.empty := by simp [pgS, hf]
    have e2 : pgE n f = 6 := by simp [pgE, hf]
    rw [e1, e2]
    exact page_bad w _ n f (.inr ⟨B, b, xs, rfl, h⟩) hf
  have hf' : fw n f = false := by simpa using hf
  have hb1 := alloc_below w (.cells #[.int .i64 f] 3)
  have hi := inp_one w f
  have h1 := h.quiet hb1
  have hp : FP (w.alloc (.cells #[.int .i64 f] 3)) (.pointer (some ⟨b, 0, none⟩)) n := .inr ⟨B, b, xs, rfl, h1⟩
  have he : fwE n [f] = 0 := by simp [fwE_1, hf']
  obtain ⟨k, rfl, hk⟩ := fw_no hf'
  have e1 : pgS n xs k = ⟨(pgL xs k).toArray⟩ := by simp [pgS, hf']
  have e2 : pgE n k = 0 := by simp [pgE, hf']
  rw [e1, e2]
  have HE := Lib.hid he
  obtain ⟨_, hpos, hlen, g, hbk, hg, hBg⟩ := h1
  have k0 := hbk.cell 0
  simp at k0
  have hpl := pgL_len hlen hk
  have L1 := load_pg hg hlen hk
  have hN := Blk.new (w.alloc (.cells #[.int .i64 (k : Int)] 3)) 91 (bcs zeroL)
  have S1 := store_all hN zeroL_len hpl
  have hN2 := blk_setCells (pgL xs k) _ zeroL 0 hN
  rw [setL_all (by rw [hpl]; rfl)] at hN2
  have hb2 : Mod Nothing w (((w.alloc (.cells #[.int .i64 (k : Int)] 3)).alloc (.cells (bcs zeroL) 91)).setCells (w.alloc (.cells #[.int .i64 (k : Int)] 3)).heap.size 0 ((pgL xs k).map bc)) :=
    mod_setCells _ (.inr (by simp)) _ 0 (((Mod.refl _ w).alloc _).alloc _)
  have C1 := conv_run hN2 0 16 (by rw [hpl]; omega) 16
  rw [List.drop_zero, List.take_of_length_le (by rw [hpl]; omega)] at C1
  rw [zero_cells] at S1 C1 hb2
  simp only [World.size_alloc] at S1 C1 hb2
  have HB := Lib.hid (hb2.below (Nat.le_refl _) (fun _ h => h.elim))
  clear hN hN2 hb2 he e1 e2 hf hf' hg hbk
  generalize World.setCells _ _ _ _ = W2 at S1 C1 HB
  go_enter Try.func21, Try.ntmps21
  go_wp2_with (go_at_call 40; refine (wrong_any _ _ _ n [(k : Int)] hp hi (by simp)).mono ?_; rintro e w' ⟨rfl, rfl⟩; rw [HE.out])
  go_ret2
  exact ⟨rfl, HB.out⟩
end Go.Proofs.Ytjibphpkebcoeaa
