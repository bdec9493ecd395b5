/- Frames: words, and the first walks. -/
import Derived.Test.YtjibphpkebcoeaaC0
import Derived.Deep.MidRow
import Derived.Laws.BytesArg
import Derived.BigRegion
import Derived.RegionTactic
import Derived.ChangeAlike
import Derived.Deep.RegionHeld3
set_option linter.all false
namespace Go.Proofs.Ytjibphpkebcoeaa
open Go.RowKit

def bc (x : UInt8) : Value := .int .u8 (x.toNat : Int)
def bcs (xs : List UInt8) : Array Value := (xs.map bc).toArray
theorem bcs_size (xs : List UInt8) : (bcs xs).size = xs.length := by simp [bcs]
theorem bcs_get (xs : List UInt8) (i : Nat) : (bcs xs)[i]? = xs[i]?.map bc := by simp [bcs]

/-- A memory of n frames at block b: its bytes xs, frame behind frame. -/
structure FR (w : World) (B b n : Nat) (xs : List UInt8) : Prop where
  low : B ≤ b
  pos : 1 ≤ n ∧ n ≤ 64
  len : xs.length = 16 * n
  tab : ∃ g, Blk w b 88 #[.slice (some ⟨g, 0, none⟩) n n] ∧ Blk w g 91 (bcs xs) ∧ B ≤ g
def FO (w : World) (B b : Nat) (k : Nat) : Prop := k = b ∨ (B ≤ k ∧ ∃ cur, Blk w k 91 cur)

theorem FR.lt {w : World} {B b n : Nat} {xs : List UInt8} (h : FR w B b n xs) : b < w.heap.size := by
  obtain ⟨g, hb, _⟩ := h.tab
  exact hb.lt
theorem FR.mod {F : Nat → Prop} {w w' : World} {B b n : Nat} {xs : List UInt8} (h : FR w B b n xs) (hm : Mod F w w') (hF : ∀ k, FO w B b k → ¬ F k) : FR w' B b n xs := by
  obtain ⟨h1, h2, h3, g, hb, hg, hl⟩ := h
  exact ⟨h1, h2, h3, g, hb.mod hm (hF b (.inl rfl)), hg.mod hm (hF g (.inr ⟨hl, _, hg⟩)), hl⟩
theorem FR.quiet {w w' : World} {B b n : Nat} {xs : List UInt8} (h : FR w B b n xs) (hb : Below w.heap.size w w') : FR w' B b n xs := h.mod (Mod.of_below hb) (fun _ _ h => h)
theorem FO.low {w : World} {B b n : Nat} {xs : List UInt8} (h : FR w B b n xs) : ∀ k, FO w B b k → B ≤ k := by
  rintro k (rfl | ⟨hk, _⟩)
  · exact h.low
  · exact hk
theorem FO.type {w : World} {B b n : Nat} {xs : List UInt8} (h : FR w B b n xs) {k : Nat} {t : TypeId} {cs : Array Value} (hk : Blk w k t cs) (h1 : t ≠ 88) (h2 : t ≠ 91) : ¬ FO w B b k := by
  obtain ⟨g, hb, _⟩ := h.tab
  rintro (rfl | ⟨_, cur, hc⟩)
  · exact (hb.ne_ hk h1.symm) rfl
  · exact (hc.ne_ hk h2.symm) rfl

set_option maxHeartbeats 400000 in
theorem flen_nil (w : World) : Calls Try.prog 29 #[.pointer none] w fun e w' => e = .returned (.int .i64 0) ∧ w = w' := by
  go_enter Try.func29, Try.ntmps29
  go_wp2
  go_ret
  exact ⟨rfl, rfl⟩
set_option maxHeartbeats 400000 in
theorem flen (w : World) (B b n : Nat) (xs : List UInt8) (h : FR w B b n xs) : Calls Try.prog 29 #[.pointer (some ⟨b, 0, none⟩)] w fun e w' => e = .returned (.int .i64 n) ∧ w = w' := by
  obtain ⟨h1, h2, h3, g, hb, hg, hl⟩ := h
  have k0 := hb.cell 0
  simp at k0
  go_enter Try.func29, Try.ntmps29
  go_wp2
  go_ret
  exact ⟨rfl, rfl⟩

/-- Wrong, at one frame's number. -/
def fw (n : Nat) (f : Int) : Bool := decide (f < 0) || decide ((n : Int) ≤ f)
def fwE (n : Nat) (l : List Int) : Int := if l.any (fw n) then 6 else 0
theorem fwE_bad {n : Nat} {l : List Int} (h : l.any (fw n) = true) : fwE n l = 6 := by simp only [fwE, h, if_true]
theorem fwE_ok {n : Nat} {l : List Int} (h : l.any (fw n) = false) : fwE n l = 0 := by simp [fwE, h]
def ic (x : Int) : List Value := [.int .i64 x]
theorem ic_len (x : Int) : (ic x).length = 1 := rfl
/-- The memory pointer: nil (n is 0), or a memory of n frames. -/
def FP (w : World) (p : Value) (n : Nat) : Prop := (p = .pointer none ∧ n = 0) ∨ ∃ B b xs, p = .pointer (some ⟨b, 0, none⟩) ∧ FR w B b n xs
theorem FP.quiet {w w' : World} {p : Value} {n : Nat} (h : FP w p n) (hb : Below w.heap.size w w') : FP w' p n := by
  rcases h with h | ⟨B, b, xs, h1, h2⟩
  · exact .inl h
  · exact .inr ⟨B, b, xs, h1, h2.quiet hb⟩
theorem flen_any (w : World) (p : Value) (n : Nat) (h : FP w p n) : Calls Try.prog 29 #[p] w fun e w' => e = .returned (.int .i64 n) ∧ w = w' := by
  rcases h with ⟨rfl, rfl⟩ | ⟨B, b, xs, rfl, h⟩
  · exact flen_nil w
  · exact flen w B b n xs h

set_option maxHeartbeats 800000 in
set_option maxRecDepth 100000 in
theorem wrong_any (w : World) (p v : Value) (n : Nat) (l : List Int) (h : FP w p n) (hin : Inp w w.heap.size v l.length 1 (atl ic l)) (hl : l.length ≤ 1000) :
    Calls Try.prog 40 #[p, v] w fun e w' => e = .returned (.int .i64 (fwE n l)) ∧ w = w' := by
  obtain ⟨_, a, cap, rfl, hc⟩ := hin
  go_enter Try.func40, Try.ntmps40
  go_wp2
  go_loop [9] (fun i => ∃ k : Nat, k ≤ l.length ∧ i = .int .i64 k ∧ Hid ((l.take k).any (fw n) = false)) (fun i => l.length - (intOf i).toNat)
  case atStart => exact ⟨0, by omega, rfl, by simp [Hid]⟩
  case round =>
    obtain ⟨k, hk, rfl, hs⟩ := hrel
    by_cases hlt : k < l.length
    · obtain ⟨b, off, rfl, hb, hcl⟩ := hc (by omega)
      have hx : l[k]? = some (l[k]'hlt) := List.getElem?_eq_getElem hlt
      generalize l[k]'hlt = x at hx
      have c0 := hcl k hlt 0 (by omega)
      rw [atl_get hx (v := .int .i64 x) rfl] at c0
      simp only [Nat.add_zero, Nat.mul_one] at c0
      have HX := Lib.hid hx
      have hbad : fw n x = true → l.any (fw n) = true := fun h => List.any_eq_true.2 ⟨x, List.mem_of_getElem? HX.out, h⟩
      have HBad := Lib.hid hbad
      clear hcl hc hx hbad
      by_cases h0 : x < 0
      · have e0 : decide (x < 0) = true := by simpa using h0
        have e1 := fwE_bad (HBad.out (by simp [fw, h0]))
        have E1 := Lib.hid e1
        clear e1 h0
        go_wp2
        go_ret
        rw [E1.out]
        exact ⟨rfl, rfl⟩
      · have e0 : decide (x < 0) = false := by simpa using h0
        by_cases h1 : (n : Int) ≤ x
        · have e2 : decide ((n : Int) ≤ x) = true := by simpa using h1
          have e1 := fwE_bad (HBad.out (by simp [fw, h1]))
          have E1 := Lib.hid e1
          clear e1 h0
          go_wp2_with (go_at_call 29; refine (flen_any w p n h).mono ?_; rintro e w' ⟨rfl, rfl⟩)
          go_ret
          rw [E1.out]
          exact ⟨rfl, rfl⟩
        · have e2 : decide ((n : Int) ≤ x) = false := by simpa using h1
          have hok : (l.take (k + 1)).any (fw n) = false := by
            rw [take_snoc_list HX.out, List.any_append, hs.out]
            simp [fw, h0, h1]
          have HOk := Lib.hid hok
          clear hok h0 h1 hs
          go_wp2_with (go_at_call 29; refine (flen_any w p n h).mono ?_; rintro e w' ⟨rfl, rfl⟩)
          go_round
          case rel => exact ⟨k + 1, by omega, by go_num, HOk⟩
          case measure => simp [intOf]; omega
    · obtain rfl : k = l.length := by omega
      have hs' := hs.out
      rw [List.take_length] at hs'
      have HS := Lib.hid (fwE_ok hs')
      clear hs hs' hc
      go_wp2
      go_ret
      rw [HS.out]
      exact ⟨rfl, rfl⟩
end Go.Proofs.Ytjibphpkebcoeaa
