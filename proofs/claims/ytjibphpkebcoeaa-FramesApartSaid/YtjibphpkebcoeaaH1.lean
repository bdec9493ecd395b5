/- The reference's frames: words, Is, Get, Page. -/
import Derived.Test.YtjibphpkebcoeaaF6
set_option linter.all false
namespace Go.Proofs.Ytjibphpkebcoeaa
open Go.RowKit

/-- The reference's memory at block rb: a row of 16 n bytes, the first of block g. -/
structure RM (w : World) (B rb n : Nat) (xs : List UInt8) : Prop where
  low : B ≤ rb
  pos : 1 ≤ n ∧ n ≤ 64
  len : xs.length = 16 * n
  tab : ∃ g cap cur, Blk w rb 94 #[.slice (some ⟨g, 0, none⟩) (16 * n) cap] ∧ Blk w g 5 cur ∧ B ≤ g ∧ 16 * n ≤ cap ∧ ∀ i, i < 16 * n → cur[i]? = (bcs xs)[i]?
def RO (w : World) (B rb : Nat) (k : Nat) : Prop := k = rb ∨ (B ≤ k ∧ ∃ cur, Blk w k 5 cur)
theorem RM.mod {F : Nat → Prop} {w w' : World} {B b n : Nat} {xs : List UInt8} (h : RM w B b n xs) (hm : Mod F w w') (hF : ∀ k, RO w B b k → ¬ F k) : RM w' B b n xs := by
  obtain ⟨h1, h2, h3, g, cap, cur, hb, hg, hl, hc⟩ := h
  exact ⟨h1, h2, h3, g, cap, cur, hb.mod hm (hF b (.inl rfl)), hg.mod hm (hF g (.inr ⟨hl, _, hg⟩)), hl, hc⟩
theorem RM.quiet {w w' : World} {B b n : Nat} {xs : List UInt8} (h : RM w B b n xs) (hb : Below w.heap.size w w') : RM w' B b n xs := h.mod (Mod.of_below hb) (fun _ _ h => h)
theorem RO.low {w : World} {B b n : Nat} {xs : List UInt8} (h : RM w B b n xs) : ∀ k, RO w B b k → B ≤ k := by
  rintro k (rfl | ⟨hk, _⟩)
  · exact h.low
  · exact hk
theorem RO.type {w : World} {B b n : Nat} {xs : List UInt8} (h : RM w B b n xs) {k : Nat} {t : TypeId} {cs : Array Value} (hk : Blk w k t cs) (h1 : t ≠ 94) (h2 : t ≠ 5) : ¬ RO w B b k := by
  obtain ⟨g, cap, cur, hb, hg, _⟩ := h.tab
  rintro (rfl | ⟨_, cur, hc⟩)
  · exact (hb.ne_ hk h1.symm) rfl
  · exact (hc.ne_ hk h2.symm) rfl
theorem RM.bl {w w' : World} {B b n : Nat} {xs : List UInt8} (h : RM w B b n xs) (hB : B ≤ w.heap.size) (hm : Mod (RO w B b) w w') : Below B w w' := hm.below hB (RO.low h)
theorem RM.put {w : World} {B b n g cap : Nat} {xs : List UInt8} (h : RM w B b n xs) (hb : Blk w b 94 #[.slice (some ⟨g, 0, none⟩) (16 * n) cap]) (i : Nat) (x : UInt8) :
    RM (w.setCell ⟨g, i, none⟩ (bc x)) B b n (xs.set i x) ∧ RO w B b g ∧ Blk (w.setCell ⟨g, i, none⟩ (bc x)) b 94 #[.slice (some ⟨g, 0, none⟩) (16 * n) cap] := by
  obtain ⟨h1, h2, h3, g', cap', cur, hb', hg, hl, h5, hc⟩ := h
  have e : g' = g ∧ cap' = cap := by
    unfold Blk at hb hb'
    rw [hb] at hb'
    simp at hb'
    exact ⟨hb'.1.symm, hb'.2.symm⟩
  obtain ⟨rfl, rfl⟩ := e
  have h4 := hg.set_ i (bc x)
  have hb6 := hb.far (p := ⟨g', i, none⟩) (hb.ne_ hg (by decide)) (bc x)
  refine ⟨⟨h1, h2, by rw [List.length_set]; exact h3, g', cap', _, hb6, h4, hl, h5, ?_⟩, .inr ⟨hl, _, hg⟩, hb6⟩
  intro j hj
  rw [← bcs_set]
  have hcj := hc j hj
  simp only [Array.getElem?_setIfInBounds, bcs_size, hcj]
  have hs : j < cur.size := by
    rcases Nat.lt_or_ge j cur.size with h | h
    · exact h
    · rw [Array.getElem?_eq_none h, bcs_get, List.getElem?_eq_getElem (by omega)] at hcj
      simp at hcj
  by_cases he : i = j
  · subst he
    simp [hs, h3, hj]
  · simp [he]

set_option maxHeartbeats 800000 in
theorem ris (w : World) (B b n : Nat) (xs : List UInt8) (f : Int) (h : RM w B b n xs) :
    Calls Try.prog 45 #[.pointer (some ⟨b, 0, none⟩), .int .i64 f] w fun e w' => e = .returned (.bool (!fw n f)) ∧ w = w' := by
  obtain ⟨h1, h2, h3, g, cap, cur, hb, hg, hl, h5, hc⟩ := h
  have k0 := hb.cell 0
  simp at k0
  by_cases hf : f < 0
  · have e0 : decide (0 ≤ f) = false := by simp; omega
    have e1 : fw n f = true := by simp [fw, hf]
    rw [e1]
    clear hf e1
    go_enter Try.func45, Try.ntmps45
    go_wp2
    go_ret
    exact ⟨rfl, rfl⟩
  have e0 : decide (0 ≤ f) = true := by simp; omega
  have e1 : (!fw n f) = decide (f < (n : Int)) := by
    have h0 : ¬ f < 0 := hf
    by_cases h9 : f < (n : Int)
    · have : ¬ (n : Int) ≤ f := by omega
      simp [fw, h0, h9, this]
    · have : (n : Int) ≤ f := by omega
      simp [fw, h9, this]
  rw [e1]
  clear hf e1
  go_enter Try.func45, Try.ntmps45
  go_wp2
  go_ret
  exact ⟨rfl, rfl⟩

theorem fw_int {n : Nat} {f : Int} (h : fw n f = false) : 0 ≤ f ∧ f < (n : Int) := by
  simp [fw] at h
  omega
set_option maxHeartbeats 1600000 in
theorem rget (w : World) (B b n : Nat) (xs : List UInt8) (f at_ : Int) (h : RM w B b n xs) :
    Calls Try.prog 27 #[.pointer (some ⟨b, 0, none⟩), .int .i64 f, .int .i64 at_] w fun e w' => e = .returned (.tuple #[bc (gtV n xs f at_), .int .i64 (gtE n f at_)]) ∧ w = w' := by
  by_cases hf : fw n f = true
  · have e1 : gtV n xs f at_ = 0 := by simp [gtV, hf]
    have e2 : gtE n f at_ = 6 := by simp [gtE, hf]
    rw [e1, e2]
    have e3 : (!fw n f) = false := by simp [hf]
    have E3 := Lib.hid e3
    clear e1 e2 e3 hf
    go_enter Try.func27, Try.ntmps27
    go_wp2_with (go_at_call 45; refine (ris w B b n xs f h).mono ?_; rintro e w' ⟨rfl, rfl⟩; rw [E3.out])
    go_ret2
    exact ⟨rfl, rfl⟩
  have hf' : fw n f = false := by simpa using hf
  have e3 : (!fw n f) = true := by simp [hf']
  have E3 := Lib.hid e3
  by_cases ha : at_ < 0 ∨ 16 ≤ at_
  · have e1 : gtV n xs f at_ = 0 := by simp [gtV, hf', ha]
    have e2 : gtE n f at_ = 1 := by simp [gtE, hf', ha]
    rw [e1, e2]
    clear e1 e2 e3 hf hf'
    rcases ha with ha | ha
    · have a0 : decide (at_ < 0) = true := by simpa using ha
      go_enter Try.func27, Try.ntmps27
      go_wp2_with (go_at_call 45; refine (ris w B b n xs f h).mono ?_; rintro e w' ⟨rfl, rfl⟩; rw [E3.out])
      go_ret2
      exact ⟨rfl, rfl⟩
    · have a0 : decide (at_ < 0) = false := by simp; omega
      have a1 : decide (15 < at_) = true := by simp; omega
      go_enter Try.func27, Try.ntmps27
      go_wp2_with (go_at_call 45; refine (ris w B b n xs f h).mono ?_; rintro e w' ⟨rfl, rfl⟩; rw [E3.out])
      go_ret2
      exact ⟨rfl, rfl⟩
  obtain ⟨k, rfl, hk⟩ := fw_no hf'
  obtain ⟨j, rfl⟩ := Int.eq_ofNat_of_zero_le (show 0 ≤ at_ by omega)
  have hj : j < 16 := by omega
  have e1 : gtV n xs k j = xs.getD (k * 16 + j) 0 := by simp [gtV, hf', ha]
  have e2 : gtE n k j = 0 := by simp [gtE, hf', ha]
  rw [e1, e2]
  have h0 := h
  obtain ⟨_, _, hlen, g, cap, cur, hb, hg, _, h5, hc⟩ := h
  have c0 := hg.cell (16 * k + j)
  have hlt : k * 16 + j < xs.length := by omega
  rw [hc _ (by omega), show 16 * k + j = k * 16 + j by omega, bcs_get, List.getElem?_eq_getElem hlt, Option.map_some] at c0
  have ev : xs.getD (k * 16 + j) 0 = xs[k * 16 + j] := by simp [List.getD, List.getElem?_eq_getElem hlt]
  rw [ev]
  generalize xs[k * 16 + j] = x at c0
  unfold bc at c0 ⊢
  have k0 := hb.cell 0
  simp at k0
  have a0 : decide ((j : Int) < 0) = false := by simp
  have a1 : decide (15 < (j : Int)) = false := by simp; omega
  have hi : ((16 * (k : Int) + (j : Int))).toNat = k * 16 + j := by omega
  clear e1 e2 e3 hf hf' ha ev hc hg hb
  go_enter Try.func27, Try.ntmps27
  go_wp2_with (go_at_call 45; refine (ris w B b n xs k h0).mono ?_; rintro e w' ⟨rfl, rfl⟩; rw [E3.out])
  go_ret2
  exact ⟨rfl, rfl⟩
end Go.Proofs.Ytjibphpkebcoeaa
