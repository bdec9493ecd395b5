/- Frames: Load, Clear, Page. -/
import Derived.Test.YtjibphpkebcoeaaF3
set_option linter.all false
namespace Go.Proofs.Ytjibphpkebcoeaa
open Go.RowKit

noncomputable def CPY (t : TypeId) (args : Array Value) : Sem Value := Builtin.copy_ #[92, 9] t args
theorem CPY_eq (t : TypeId) (args : Array Value) : Builtin.copy_ #[92, 9] t args = CPY t args := rfl
def zeroL : List UInt8 := List.replicate 16 0
theorem zeroL_len : zeroL.length = 16 := rfl
theorem ones_list (ys : List UInt8) : ∀ v ∈ ys.map bc, v.oneCell' = true := by
  intro v hv
  obtain ⟨y, _, rfl⟩ := List.mem_map.1 hv
  rfl
theorem copy_run (t : TypeId) (w : World) (N : Nat) (s : ByteArray) (hN : Blk w N 91 (bcs zeroL)) (hs : s.size ≤ 16) :
    (CPY t #[.slice (some ⟨N, 0, none⟩) 16 16, .string s]).run Try.prog w = .ok (.int .i64 s.size) (w.setCells N 0 (s.data.toList.map bc)) := by
  have hmin : Nat.min s.size 16 = s.size := Nat.min_eq_left hs
  have h1 := run_storeCells_cells (P := Try.prog) N 0 (s.data.toList.map bc) 0 w (fun j hj => by
      have hj' : j < 16 := by simp at hj; have : s.data.size = s.size := rfl; omega
      rw [hN.cell, bcs_get, List.getElem?_eq_getElem (by rw [zeroL_len]; omega)]; rfl) (fun j hj => hN.frozen _) (ones_list _)
  have hz : (sizeOf 5).run Try.prog w = .ok 1 w := by kernel_rfl
  unfold CPY Builtin.copy_
  simp [run_underlying Try.underlying92, Builtin.lenOf, Builtin.firstCells, hz, hmin]
  have e : List.take s.size (List.map (fun b : UInt8 => Value.int .u8 (b.toNat : Int)) s.data.toList) = s.data.toList.map bc := by
    rw [List.take_of_length_le (by simp)]
    rfl
  rw [e, h1]
  rfl

/-- A text's bytes, and bytes 0 behind it. -/
def padL (s : ByteArray) : List UInt8 := setL zeroL 0 s.data.toList
theorem padL_len (s : ByteArray) : (padL s).length = 16 := by rw [padL, setL_len]; rfl
theorem load_all {w : World} {N : Nat} {ys : List UInt8} (hg : Blk w N 91 (bcs ys)) (h : ys.length = 16) :
    (LD91 (.pointer (some ⟨N, 0, none⟩))).run Try.prog w = .ok (.agg (ys.map bc).toArray) w := by
  have := load_pg (n := 1) (f := 0) hg (by omega) (by omega)
  have e : pgL ys 0 = ys := by unfold pgL; rw [Nat.zero_mul, List.drop_zero, List.take_of_length_le (by omega)]
  rw [e] at this
  simpa using this
theorem zero_cells : bcs zeroL = #[.int .u8 0, .int .u8 0, .int .u8 0, .int .u8 0, .int .u8 0, .int .u8 0, .int .u8 0, .int .u8 0, .int .u8 0, .int .u8 0, .int .u8 0, .int .u8 0, .int .u8 0, .int .u8 0, .int .u8 0, .int .u8 0] := rfl

attribute [local go_sem ↓] LD91_eq ST91_eq CPY_eq
def ldE (n : Nat) (f : Int) (s : ByteArray) : Int := if fw n f then 6 else if 16 < s.size then 2 else 0
def ldX (n : Nat) (xs : List UInt8) (f : Int) (s : ByteArray) : List UInt8 := if fw n f then xs else if 16 < s.size then xs else setL xs (f.toNat * 16) (padL s)

set_option maxHeartbeats 800000 in
theorem fload_bad (w : World) (p : Value) (n : Nat) (f : Int) (s : ByteArray) (h : FP w p n) (hf : fw n f = true) :
    Calls Try.prog 20 #[p, .int .i64 f, .string s] w fun e w' => e = .returned (.int .i64 6) ∧ Below w.heap.size w w' := by
  have hb := alloc_below w (.cells #[.int .i64 f] 3)
  have h1 := h.quiet hb
  have hi := inp_one w f
  have he : fwE n [f] = 6 := by simp [fwE_1, hf]
  have HE := Lib.hid he
  clear h he hf
  go_enter Try.func20, Try.ntmps20
  go_wp2_with (go_at_call 40; refine (wrong_any _ _ _ n [f] h1 hi (by simp)).mono ?_; rintro e w' ⟨rfl, rfl⟩; rw [HE.out])
  go_ret
  exact ⟨rfl, hb⟩
set_option maxHeartbeats 3200000 in
set_option maxRecDepth 100000 in
theorem fload_fr (w : World) (B b n : Nat) (xs : List UInt8) (f : Int) (s : ByteArray) (h : FR w B b n xs) :
    Calls Try.prog 20 #[.pointer (some ⟨b, 0, none⟩), .int .i64 f, .string s] w fun e w' => e = .returned (.int .i64 (ldE n f s)) ∧ FR w' B b n (ldX n xs f s) ∧ Mod (FO w B b) w w' := by
  by_cases hf : fw n f = true
  · have e1 : ldX n xs f s = xs := by simp [ldX, hf]
    have e2 : ldE n f s = 6 := by simp [ldE, hf]
    rw [e1, e2]
    exact (fload_bad w _ n f s (.inr ⟨B, b, xs, rfl, h⟩) hf).mono fun e w' ⟨he, hb⟩ => ⟨he, h.quiet hb, (Mod.of_below hb).mono (fun _ _ h => h.elim)⟩
  have hf' : fw n f = false := by simpa using hf
  have hb1 := alloc_below w (.cells #[.int .i64 f] 3)
  have hi := inp_one w f
  have h1 := h.quiet hb1
  have hp : FP (w.alloc (.cells #[.int .i64 f] 3)) (.pointer (some ⟨b, 0, none⟩)) n := .inr ⟨B, b, xs, rfl, h1⟩
  have he : fwE n [f] = 0 := by simp [fwE_1, hf']
  by_cases hs : 16 < s.size
  · have e1 : ldX n xs f s = xs := by simp [ldX, hf', hs]
    have e2 : ldE n f s = 2 := by simp [ldE, hf', hs]
    rw [e1, e2]
    have HE := Lib.hid he
    have e3 : decide (16 < (s.size : Int)) = true := by simp; omega
    clear he e1 e2 hf hf'
    go_enter Try.func20, Try.ntmps20
    go_wp2_with (go_at_call 40; refine (wrong_any _ _ _ n [f] hp hi (by simp)).mono ?_; rintro e w' ⟨rfl, rfl⟩; rw [HE.out])
    go_ret
    exact ⟨rfl, h1, (Mod.of_below hb1).mono (fun _ _ h => h.elim)⟩
  · obtain ⟨k, rfl, hk⟩ := fw_no hf'
    have e1 : ldX n xs k s = setL xs (k * 16) (padL s) := by simp [ldX, hf', hs]
    have e2 : ldE n k s = 0 := by simp [ldE, hf', hs]
    rw [e1, e2]
    have HE := Lib.hid he
    have e3 : decide (16 < (s.size : Int)) = false := by simp; omega
    have hs' : s.size ≤ 16 := by omega
    have hN := Blk.new (w.alloc (.cells #[.int .i64 (k : Int)] 3)) 91 (bcs zeroL)
    have C1 := fun t => copy_run t _ _ s hN hs'
    have hM2 : Mod Nothing w (((w.alloc (.cells #[.int .i64 (k : Int)] 3)).alloc (.cells (bcs zeroL) 91)).setCells (w.alloc (.cells #[.int .i64 (k : Int)] 3)).heap.size 0 (s.data.toList.map bc)) :=
      mod_setCells _ (.inr (by simp)) _ 0 (((Mod.refl _ w).alloc _).alloc _)
    have hN2 := blk_setCells s.data.toList _ zeroL 0 hN
    rw [zero_cells] at C1 hM2 hN2
    simp only [World.size_alloc] at C1 hM2 hN2
    generalize World.setCells _ _ _ _ = W2 at C1 hM2 hN2
    have hfr2 := (h.mod hM2 (fun _ _ h => h)).quiet (Below.refl _ W2).drew
    have hN3 : Blk W2.drew (w.heap.size + 1) 91 (bcs (padL s)) := hN2
    have L1 := load_all hN3 (padL_len s)
    obtain ⟨_, hpos, hlen, g, hbk, hg, hBg⟩ := hfr2
    have hfr2 := (h.mod hM2 (fun _ _ h => h)).quiet (Below.refl _ W2).drew
    have k0 := hbk.cell 0
    simp at k0
    have S1 := store_pg hg hlen hk (padL_len s)
    have hfin := (FR.puts hfr2 hbk (k * 16) (padL s)).1
    have hmod := mod_setCells ((padL s).map bc) (F := FO w B b) (a := w) (g := g) (by
      rcases Nat.lt_or_ge g w.heap.size with hlt | hge
      · exact .inl (.inr ⟨hBg, _, by unfold Blk; rw [← hM2.block g hlt (fun h => h)]; exact hg⟩)
      · exact .inr hge) _ (k * 16) ((hM2.mono (G := FO w B b) (fun _ _ h => h.elim)).drew)
    have HF := Lib.hid hfin
    have HM := Lib.hid hmod
    clear he e1 e2 hf hf' hs hfin hmod hN hN2 hN3 hg hbk hfr2 hM2
    go_enter Try.func20, Try.ntmps20
    go_wp2_with (go_at_call 40; refine (wrong_any _ _ _ n [(k : Int)] hp hi (by simp)).mono ?_; rintro e w' ⟨rfl, rfl⟩; rw [HE.out])
    go_region
    go_wp2
    go_ret
    exact ⟨rfl, HF.out, HM.out⟩
end Go.Proofs.Ytjibphpkebcoeaa
