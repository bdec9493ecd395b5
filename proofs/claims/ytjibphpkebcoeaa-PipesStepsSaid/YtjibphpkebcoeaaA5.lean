/- The pipes' contracts, of the whole table. -/
import Derived.Test.YtjibphpkebcoeaaA4
set_option linter.all false
namespace Go.Proofs.Ytjibphpkebcoeaa
open Go.RowKit

/-- The table of pipes at block b: s i is the block and the bytes of pipe i. -/
structure PR (w : World) (B b : Nat) (s : PS) : Prop where
  tab : Blk w b 81 #[pv (s 0), pv (s 1), pv (s 2)]
  low : B ≤ b
  pipe : ∀ i, i < 3 → ∀ c d, s i = some (c, d) → Blk w c 83 #[.string d] ∧ d.size ≤ 16 ∧ B ≤ c
  one : ∀ i j, i < 3 → j < 3 → ∀ c d e, s i = some (c, d) → s j = some (c, e) → i = j
def Own (b : Nat) (s : PS) (k : Nat) : Prop := k = b ∨ ∃ i d, i < 3 ∧ s i = some (k, d)
def up (s : PS) (i : Nat) (x : Option (Nat × ByteArray)) : PS := fun j => if j = i then x else s j
def lowest (s : PS) : Nat := if s 0 = none then 0 else if s 1 = none then 1 else if s 2 = none then 2 else 3

theorem PR.Tab {w : World} {B b : Nat} {s : PS} (h : PR w B b s) : Tab w b s := fun i hi => by
  refine ⟨?_, h.tab.frozen i⟩
  rw [h.tab.cell]
  match i, hi with
  | 0, _ => rfl
  | 1, _ => rfl
  | 2, _ => rfl
theorem PR.own_low {w : World} {B b : Nat} {s : PS} (h : PR w B b s) : ∀ k, Own b s k → B ≤ k := by
  rintro k (rfl | ⟨i, d, hi, e⟩)
  · exact h.low
  · exact (h.pipe i hi k d e).2.2
theorem PR.own_lt {w : World} {B b : Nat} {s : PS} (h : PR w B b s) : ∀ k, Own b s k → k < w.heap.size := by
  rintro k (rfl | ⟨i, d, hi, e⟩)
  · exact h.tab.lt
  · exact (h.pipe i hi k d e).1.lt
theorem PR.own_type {w : World} {B b : Nat} {s : PS} (h : PR w B b s) {k : Nat} {t : TypeId} {cs : Array Value} (hk : Blk w k t cs) (h1 : t ≠ 81) (h2 : t ≠ 83) : ¬ Own b s k := by
  rintro (rfl | ⟨i, d, hi, e⟩)
  · exact (h.tab.ne_ hk h1.symm) rfl
  · exact ((h.pipe i hi k d e).1.ne_ hk h2.symm) rfl
theorem PR.mod {F : Nat → Prop} {w w' : World} {B b : Nat} {s : PS} (h : PR w B b s) (hm : Mod F w w') (hF : ∀ k, Own b s k → ¬ F k) : PR w' B b s :=
  ⟨h.tab.mod hm (hF b (.inl rfl)), h.low, fun i hi c d e => ⟨(h.pipe i hi c d e).1.mod hm (hF c (.inr ⟨i, d, hi, e⟩)), (h.pipe i hi c d e).2⟩, h.one⟩

/-- A new pipe in place i. -/
theorem PR.opened {w : World} {B b : Nat} {s : PS} (h : PR w B b s) (hB : B ≤ w.heap.size) (i : Nat) (hi : i < 3) (d0 : ByteArray) (hd0 : d0.size ≤ 16) :
    PR ((w.setCell ⟨b, i, none⟩ (.pointer (some ⟨w.heap.size, 0, none⟩))).alloc (.cells #[.string d0] 83)) B b (up s i (some (w.heap.size, d0))) := by
  have hlt := h.tab.lt
  refine ⟨?_, h.low, ?_, ?_⟩
  · have := (h.tab.set_ i (.pointer (some ⟨w.heap.size, 0, none⟩))).alloc (.cells #[.string d0] 83)
    match i, hi with
    | 0, _ => exact this
    | 1, _ => exact this
    | 2, _ => exact this
  · intro j hj c d e
    unfold up at e
    split at e
    · simp only [Option.some.injEq, Prod.mk.injEq] at e
      obtain ⟨rfl, rfl⟩ := e
      have := Blk.new (w.setCell ⟨b, i, none⟩ (.pointer (some ⟨w.heap.size, 0, none⟩))) 83 #[.string d0]
      simp only [World.size_setCell] at this
      exact ⟨this, hd0, hB⟩
    · obtain ⟨h1, h2⟩ := h.pipe j hj c d e
      exact ⟨(h1.far (p := ⟨b, i, none⟩) (h1.ne_ h.tab (by decide)) _).alloc _, h2⟩
  · intro j k hj hk c d e e1 e2
    unfold up at e1 e2
    split at e1 <;> split at e2
    · omega
    · simp only [Option.some.injEq, Prod.mk.injEq] at e1
      have := (h.pipe k hk c e e2).1.lt
      omega
    · simp only [Option.some.injEq, Prod.mk.injEq] at e2
      have := (h.pipe j hj c d e1).1.lt
      omega
    · exact h.one j k hj hk c d e e1 e2
/-- Pipe i's bytes are d'. -/
theorem PR.put {w : World} {B b : Nat} {s : PS} (h : PR w B b s) (i : Nat) (hi : i < 3) {c : Nat} {d : ByteArray} (hs : s i = some (c, d)) (d' : ByteArray) (hd : d'.size ≤ 16) :
    PR (w.setCell ⟨c, 0, none⟩ (.string d')) B b (up s i (some (c, d'))) := by
  obtain ⟨hc, _, hl⟩ := h.pipe i hi c d hs
  refine ⟨?_, h.low, ?_, ?_⟩
  · have := h.tab.far (p := ⟨c, 0, none⟩) (h.tab.ne_ hc (by decide)) (.string d')
    have e : ∀ j, pv (up s i (some (c, d')) j) = pv (s j) := by
      intro j
      unfold up
      split
      · subst_vars; rw [hs]; rfl
      · rfl
    rw [e, e, e]
    exact this
  · intro j hj c1 d1 e
    unfold up at e
    split at e
    · simp only [Option.some.injEq, Prod.mk.injEq] at e
      obtain ⟨rfl, rfl⟩ := e
      exact ⟨hc.set_ 0 _, hd, hl⟩
    · obtain ⟨h1, h2⟩ := h.pipe j hj c1 d1 e
      refine ⟨h1.far (p := ⟨c, 0, none⟩) (fun ec => ?_) _, h2⟩
      subst ec
      exact absurd (h.one j i hj hi _ _ _ e hs) ‹_›
  · intro j k hj hk c1 d1 e e1 e2
    unfold up at e1 e2
    split at e1 <;> split at e2
    · omega
    · simp only [Option.some.injEq, Prod.mk.injEq] at e1
      obtain ⟨rfl, rfl⟩ := e1
      have := h.one k i hk hi _ _ _ e2 hs
      omega
    · simp only [Option.some.injEq, Prod.mk.injEq] at e2
      obtain ⟨rfl, rfl⟩ := e2
      have := h.one j i hj hi _ _ _ e1 hs
      omega
    · exact h.one j k hj hk _ _ _ e1 e2
/-- Pipe i is closed. -/
theorem PR.closed {w : World} {B b : Nat} {s : PS} (h : PR w B b s) (i : Nat) (hi : i < 3) :
    PR (w.setCell ⟨b, i, none⟩ (.pointer none)) B b (up s i none) := by
  refine ⟨?_, h.low, ?_, ?_⟩
  · have := h.tab.set_ i (.pointer none)
    match i, hi with
    | 0, _ => exact this
    | 1, _ => exact this
    | 2, _ => exact this
  · intro j hj c d e
    unfold up at e
    split at e
    · cases e
    · obtain ⟨h1, h2⟩ := h.pipe j hj c d e
      exact ⟨h1.far (p := ⟨b, i, none⟩) (h1.ne_ h.tab (by decide)) _, h2⟩
  · intro j k hj hk c d e e1 e2
    unfold up at e1 e2
    split at e1 <;> split at e2
    · cases e1
    · cases e1
    · cases e2
    · exact h.one j k hj hk c d e e1 e2

theorem new_pr (w : World) (B : Nat) (hB : B ≤ w.heap.size) :
    Calls Try.prog 12 #[] w fun e w' => e = .returned (.pointer (some ⟨w.heap.size, 0, none⟩)) ∧ PR w' B w.heap.size (fun _ => none) ∧ Mod Nothing w w' :=
  (new_any w).mono fun e w' ⟨he, hw⟩ => by
    subst hw
    exact ⟨he, ⟨Blk.new _ _ _, hB, fun _ _ _ _ h => (nomatch h), fun _ _ _ _ _ _ _ h => (nomatch h)⟩, (Mod.refl _ _).alloc _⟩

theorem open_pr (w : World) (B b : Nat) (s : PS) (h : PR w B b s) (hB : B ≤ w.heap.size) :
    Calls Try.prog 15 #[.pointer (some ⟨b, 0, none⟩)] w fun e w' => Mod (Own b s) w w' ∧
      ((lowest s < 3 ∧ e = .returned (.tuple #[.int .i64 (lowest s), .int .i64 0]) ∧ PR w' B b (up s (lowest s) (some (w.heap.size, ByteArray.empty)))) ∨
       (lowest s = 3 ∧ e = .returned (.tuple #[.int .i64 0, .int .i64 5]) ∧ PR w' B b s)) := by
  have hm : ∀ i, Mod (Own b s) w ((w.setCell ⟨b, i, none⟩ (.pointer (some ⟨w.heap.size, 0, none⟩))).alloc (.cells #[.string ByteArray.empty] 83)) :=
    fun i => ((Mod.refl _ _).setCell (.inl (.inl rfl)) _).alloc _
  have ht := h.tab
  rcases e0 : s 0 with _ | ⟨c0, d0⟩
  · rw [e0] at ht
    have el : lowest s = 0 := by simp [lowest, e0]
    rw [el]
    exact (open_0 _ _ b w ht).mono fun e w' ⟨he, hw⟩ => by subst hw; exact ⟨hm 0, .inl ⟨by omega, he, h.opened hB 0 (by omega) _ (by simp)⟩⟩
  rcases e1 : s 1 with _ | ⟨c1, d1⟩
  · rw [e0, e1] at ht
    have el : lowest s = 1 := by simp [lowest, e0, e1]
    rw [el]
    exact (open_1 _ _ b w ht).mono fun e w' ⟨he, hw⟩ => by subst hw; exact ⟨hm 1, .inl ⟨by omega, he, h.opened hB 1 (by omega) _ (by simp)⟩⟩
  rcases e2 : s 2 with _ | ⟨c2, d2⟩
  · rw [e0, e1, e2] at ht
    have el : lowest s = 2 := by simp [lowest, e0, e1, e2]
    rw [el]
    exact (open_2 _ _ b w ht).mono fun e w' ⟨he, hw⟩ => by subst hw; exact ⟨hm 2, .inl ⟨by omega, he, h.opened hB 2 (by omega) _ (by simp)⟩⟩
  · rw [e0, e1, e2] at ht
    have el : lowest s = 3 := by simp [lowest, e0, e1, e2]
    rw [el]
    exact (open_3 _ _ _ b w ht).mono fun e w' ⟨he, hw⟩ => by subst hw; exact ⟨Mod.refl _ _, .inr ⟨rfl, he, h⟩⟩
end Go.Proofs.Ytjibphpkebcoeaa
