/- Open objects: the table in memory; at, of. -/
import Derived.Test.YtidmkdaegglepaaO0
set_option linter.all false
namespace Go.Proofs.Ytidmkdaegglepaa
open Go.RowKit

def tab (t : Nat → Option Nat) : List Value := (List.range 78).map fun i => pq (t i)
theorem tab_len (t : Nat → Option Nat) : (tab t).length = 78 := by simp [tab]
theorem tab_get (t : Nat → Option Nat) {i : Nat} (h : i < 78) : (tab t)[i]? = some (pq (t i)) := by simp [tab, h]
def upd {α : Type} (t : Nat → Option α) (i : Nat) (x : Option α) : Nat → Option α := fun j => if j = i then x else t j
theorem tab_set (t : Nat → Option Nat) (i : Nat) (x : Option Nat) : (tab t).set i (pq x) = tab (upd t i x) := by
  apply List.ext_getElem?
  intro j
  rw [List.getElem?_set]
  by_cases hj : j < 78
  · rw [tab_get _ hj, tab_get _ hj]
    by_cases e : i = j
    · subst e
      rw [if_pos rfl, if_pos (by rw [tab_len]; exact hj), upd, if_pos rfl]
    · rw [if_neg e, upd, if_neg (fun h => e h.symm)]
  · have e1 : (tab t)[j]? = none := List.getElem?_eq_none (by rw [tab_len]; omega)
    have e2 : (tab (upd t i x))[j]? = none := List.getElem?_eq_none (by rw [tab_len]; omega)
    rw [e1, e2]
    split
    · rw [if_neg (by rw [tab_len]; omega)]
    · rfl
structure OB where
  kind : Int
  obj : Int
  off : Int
/-- How many slots name an object. -/
def cnt (sl : Nat → Option Nat) (d : Nat) : Nat := ((List.range 42).filter fun i => sl i == some d).length
/-- The table's cells: the slots, then the objects. -/
def tf (sl : Nat → Option Nat) (ob : Nat → Option OB) (ad : Nat → Nat) (i : Nat) : Option Nat := if i < 42 then (sl i).map ad else (ob (i - 42)).map fun _ => ad (i - 42)
def oc (o : OB) (n : Nat) : Array Value := #[.int .i64 o.kind, .int .i64 o.obj, .int .i64 o.off, .int .i64 (n : Int)]
structure OT (w : World) (B b : Nat) (sl : Nat → Option Nat) (ob : Nat → Option OB) (ad : Nat → Nat) : Prop where
  low : B ≤ b
  blk : Blk w b 111 (tab (tf sl ob ad)).toArray
  obs : ∀ d o, d < 36 → ob d = some o → B ≤ ad d ∧ Blk w (ad d) 114 (oc o (cnt sl d))
  inj : ∀ d e o u, d < 36 → e < 36 → ob d = some o → ob e = some u → ad d = ad e → d = e
  val : ∀ i d, i < 42 → sl i = some d → d < 36 ∧ ∃ o, ob d = some o
  low6 : ∀ i, i < 6 → sl i = none
def OF (w : World) (B b : Nat) (k : Nat) : Prop := k = b ∨ (B ≤ k ∧ ∃ cs, Blk w k 114 cs)
section
variable {w w' : World} {B b : Nat} {sl : Nat → Option Nat} {ob : Nat → Option OB} {ad : Nat → Nat}
theorem OT.mod {F : Nat → Prop} (h : OT w B b sl ob ad) (hm : Mod F w w') (hF : ∀ k, OF w B b k → ¬ F k) : OT w' B b sl ob ad :=
  ⟨h.low, h.blk.mod hm (hF b (.inl rfl)), fun d o hd ho => ⟨(h.obs d o hd ho).1, (h.obs d o hd ho).2.mod hm (hF _ (.inr ⟨(h.obs d o hd ho).1, _, (h.obs d o hd ho).2⟩))⟩, h.inj, h.val, h.low6⟩
theorem OT.quiet (h : OT w B b sl ob ad) (hb : Below w.heap.size w w') : OT w' B b sl ob ad := h.mod (Mod.of_below hb) (fun _ _ h => h)
theorem OF.lowk (h : OT w B b sl ob ad) : ∀ k, OF w B b k → B ≤ k := by
  rintro k (rfl | ⟨hk, _⟩)
  · exact h.low
  · exact hk
theorem OF.type (h : OT w B b sl ob ad) {k : Nat} {t : TypeId} {cs : Array Value} (hk : Blk w k t cs) (h1 : t ≠ 111) (h2 : t ≠ 114) : ¬ OF w B b k := by
  rintro (rfl | ⟨_, cs', hc⟩)
  · exact (h.blk.ne_ hk h1.symm) rfl
  · exact (hc.ne_ hk h2.symm) rfl
theorem OF.trans {V W : World} (h : Mod (OF w B b) w V) (k : Mod (OF V B b) V W) : Mod (OF w B b) w W :=
  h.trans k fun i hi hx => by
    by_cases hd : OF w B b i
    · exact hd
    · rcases hx with rfl | ⟨h1, cs, h2⟩
      · exact .inl rfl
      · exact .inr ⟨h1, cs, (h.block i hi hd).symm.trans h2⟩
theorem OT.cell (h : OT w B b sl ob ad) {i : Nat} (hi : i < 78) : w.cell? ⟨b, i, none⟩ = some (pq (tf sl ob ad i)) := by
  rw [h.blk.cell i]
  simpa using tab_get (tf sl ob ad) hi
theorem OT.pb (h : OT w B b sl ob ad) (i : Nat) (hi : i < 78) : PB w (tf sl ob ad i) := by
  intro g hg
  unfold tf at hg
  split at hg
  · rename_i h42
    rcases e : sl i with _ | d
    · rw [e] at hg; cases hg
    · rw [e] at hg
      obtain ⟨hd, o, ho⟩ := h.val i d h42 e
      cases hg
      exact ⟨_, (h.obs d o hd ho).2⟩
  · rcases e : ob (i - 42) with _ | o
    · rw [e] at hg; cases hg
    · rw [e] at hg
      cases hg
      exact ⟨_, (h.obs (i - 42) o (by omega) e).2⟩
end
def sIx (p s : Int) : Nat := p.toNat * 6 + s.toNat
def okS (p s : Int) : Bool := procB p && withB s 6
/-- The object that a slot names. -/
def lk (sl : Nat → Option Nat) (p s : Int) : Option Nat := if okS p s then sl (sIx p s) else none
def atPtr (b : Nat) (p s : Int) : Value := if okS p s then .pointer (some ⟨b, sIx p s, none⟩) else .pointer none
set_option maxHeartbeats 1600000 in
theorem oat_nil (w : World) (p s : Int) : Calls Try.prog 83 #[.pointer none, .int .i64 p, .int .i64 s] w fun e w' => e = .returned (.pointer none) ∧ w = w' := by
  go_enter Try.func83, Try.ntmps83
  go_wp2
  go_ret
  exact ⟨rfl, rfl⟩
set_option maxHeartbeats 1600000 in
theorem oat_any (w : World) (b : Nat) (p s : Int) : Calls Try.prog 83 #[.pointer (some ⟨b, 0, none⟩), .int .i64 p, .int .i64 s] w fun e w' => e = .returned (atPtr b p s) ∧ w = w' := by
  unfold atPtr okS
  cases h1 : procB p
  · have H1 := Lib.hid h1
    clear h1
    simp only [Bool.false_and, Bool.false_eq_true, if_false]
    go_enter Try.func83, Try.ntmps83
    go_wp2_with fail
    refine (oprocess_any p w).mono ?_
    rintro e w1 ⟨rfl, rfl⟩
    rw [H1.out]
    go_wp2
    go_ret
    exact ⟨rfl, rfl⟩
  · cases h2 : withB s 6
    · have H1 := Lib.hid h1
      have H2 := Lib.hid h2
      clear h1 h2
      simp only [Bool.and_false, Bool.false_eq_true, if_false]
      go_enter Try.func83, Try.ntmps83
      go_wp2_with fail
      refine (oprocess_any p w).mono ?_
      rintro e w1 ⟨rfl, rfl⟩
      rw [H1.out]
      go_wp2_with fail
      refine (owithin_any s 6 w).mono ?_
      rintro e w1 ⟨rfl, rfl⟩
      rw [H2.out]
      go_wp2
      go_ret
      exact ⟨rfl, rfl⟩
    · have hp : 1 ≤ p ∧ p ≤ 6 := by unfold procB at h1; simpa using h1
      have hs : 0 ≤ s ∧ s < 6 := by unfold withB at h2; simpa using h2
      have H1 := Lib.hid h1
      have H2 := Lib.hid h2
      clear h1 h2
      simp only [Bool.and_self, if_true]
      unfold sIx
      obtain ⟨pn, rfl⟩ := Int.eq_ofNat_of_zero_le (show 0 ≤ p by omega)
      obtain ⟨sn, rfl⟩ := Int.eq_ofNat_of_zero_le hs.1
      rw [Int.toNat_natCast, Int.toNat_natCast]
      have hp7 : (pn : Int) < 7 := by omega
      have hs6 : (sn : Int) < 6 := by omega
      go_enter Try.func83, Try.ntmps83
      go_wp2_with fail
      refine (oprocess_any _ w).mono ?_
      rintro e w1 ⟨rfl, rfl⟩
      rw [H1.out]
      go_wp2_with fail
      refine (owithin_any _ 6 w).mono ?_
      rintro e w1 ⟨rfl, rfl⟩
      rw [H2.out]
      go_wp2
      go_ret
      exact ⟨rfl, rfl⟩
theorem lk_tf {sl : Nat → Option Nat} {ob : Nat → Option OB} {ad : Nat → Nat} {p s : Int} (h : okS p s = true) : tf sl ob ad (sIx p s) = (lk sl p s).map ad ∧ sIx p s < 42 := by
  have h2 := h
  unfold okS procB withB at h2
  simp at h2
  have : sIx p s < 42 := by unfold sIx; omega
  refine ⟨?_, this⟩
  unfold tf lk
  rw [if_pos this, if_pos h]
set_option maxHeartbeats 1600000 in
theorem oof_any (w : World) (B b : Nat) (sl : Nat → Option Nat) (ob : Nat → Option OB) (ad : Nat → Nat) (p s : Int) (h : OT w B b sl ob ad) :
    Calls Try.prog 74 #[.pointer (some ⟨b, 0, none⟩), .int .i64 p, .int .i64 s] w fun e w' => e = .returned (pq ((lk sl p s).map ad)) ∧ w = w' := by
  have hA := oat_any w b p s
  unfold atPtr at hA
  cases ho : okS p s
  · rw [ho] at hA
    simp only [Bool.false_eq_true, if_false] at hA
    have e1 : lk sl p s = none := by unfold lk; rw [ho]; rfl
    rw [e1]
    have HA := Lib.hid hA
    clear hA ho e1 h
    go_enter Try.func74, Try.ntmps74
    go_wp2_with fail
    refine HA.out.mono ?_
    rintro e w1 ⟨rfl, rfl⟩
    go_wp2
    go_ret
    exact ⟨rfl, rfl⟩
  · rw [ho] at hA
    simp only [if_true] at hA
    obtain ⟨e1, h42⟩ := lk_tf (sl := sl) (ob := ob) (ad := ad) ho
    have c0 := h.cell (i := sIx p s) (by omega)
    rw [e1] at c0
    generalize sIx p s = i at *
    generalize Option.map ad (lk sl p s) = x at *
    have HA := Lib.hid hA
    clear hA ho e1 h
    go_enter Try.func74, Try.ntmps74
    go_wp2_with fail
    refine HA.out.mono ?_
    rintro e w1 ⟨rfl, rfl⟩
    go_wp2
    go_ret
    exact ⟨rfl, rfl⟩
set_option maxHeartbeats 1600000 in
theorem oof_nil (w : World) (p s : Int) :
    Calls Try.prog 74 #[.pointer none, .int .i64 p, .int .i64 s] w fun e w' => e = .returned (.pointer none) ∧ w = w' := by
  have HA := Lib.hid (oat_nil w p s)
  go_enter Try.func74, Try.ntmps74
  go_wp2_with fail
  refine HA.out.mono ?_
  rintro e w1 ⟨rfl, rfl⟩
  go_wp2
  go_ret
  exact ⟨rfl, rfl⟩
end Go.Proofs.Ytidmkdaegglepaa
