/- Open objects: free; the stores of 'name'. -/
import Derived.Test.YtidmkdaegglepaaO1
set_option linter.all false
namespace Go.Proofs.Ytidmkdaegglepaa
open Go.RowKit

theorem upd_same {α : Type} (t : Nat → Option α) (i : Nat) (x : Option α) : upd t i x i = x := by unfold upd; rw [if_pos rfl]
theorem upd_ne {α : Type} (t : Nat → Option α) {i j : Nat} (x : Option α) (h : j ≠ i) : upd t i x j = t j := by unfold upd; rw [if_neg h]
/-- A process's lowest free slot. -/
def freeS (sl : Nat → Option Nat) (p : Nat) : Option Nat := (List.range 6).find? fun j => (sl (p * 6 + j)).isNone
theorem free_cases (sl : Nat → Option Nat) (p : Nat) : (freeS sl p = none ∧ ∀ j, j < 6 → sl (p * 6 + j) ≠ none) ∨ ∃ j, j < 6 ∧ freeS sl p = some j ∧ sl (p * 6 + j) = none ∧ ∀ i, i < j → sl (p * 6 + i) ≠ none := by
  rcases h : freeS sl p with _ | j
  · refine .inl ⟨rfl, fun j hj => ?_⟩
    unfold freeS at h
    rw [List.find?_range_eq_none] at h
    have := h j hj
    intro e
    rw [e] at this
    simp at this
  · refine .inr ⟨j, ?_⟩
    unfold freeS at h
    rw [List.find?_range_eq_some] at h
    refine ⟨by simpa using h.2.1, rfl, by simpa using h.1, fun i hi e => ?_⟩
    have := h.2.2 i hi
    rw [e] at this
    simp at this
attribute [local go_sem ↓] guard_pq guard_pq_nil eql_pq_nil neq_pq_nil
def freeR (b : Nat) (p : Nat) (r : Option Nat) : Value := match r with
  | none => .tuple #[.pointer none, .int .i64 0]
  | some j => .tuple #[.pointer (some ⟨b, p * 6 + j, none⟩), .int .i64 (j : Int)]
set_option maxHeartbeats 1600000 in
theorem ofree_any (w : World) (B b : Nat) (sl : Nat → Option Nat) (ob : Nat → Option OB) (ad : Nat → Nat) (p : Nat) (h : OT w B b sl ob ad) (hp : 1 ≤ p) (hp6 : p ≤ 6) :
    Calls Try.prog 78 #[.pointer (some ⟨b, 0, none⟩), .int .i64 (p : Int)] w fun e w' => e = .returned (freeR b p (freeS sl p)) ∧ w = w' := by
  have hF := first_any w b (p * 6) 6 6 (fun j => tf sl ob ad (p * 6 + j)) none (by omega) (fun j hj => h.cell (by omega)) (PB.none w) (fun j hj => h.pb _ (by omega))
  have hp7 : (p : Int) < 7 := by omega
  have et : ∀ j, j < 6 → tf sl ob ad (p * 6 + j) = (sl (p * 6 + j)).map ad := fun j hj => by unfold tf; rw [if_pos (by omega)]
  rcases free_cases sl p with ⟨e1, h1⟩ | ⟨j, hj, e1, h1, h2⟩
  · rw [e1]
    have e2 := first_no (f := fun j => tf sl ob ad (p * 6 + j)) (n := 6) (x := none) (fun i hi => by
      show tf sl ob ad (p * 6 + i) ≠ none
      rw [et i hi]
      have := h1 i hi
      intro e
      rw [Option.map_eq_none_iff] at e
      exact this e)
    rw [e2] at hF
    have HF := Lib.hid hF
    clear hF e1 h1 e2 et h
    go_enter Try.func78, Try.ntmps78
    go_wp2_with fail
    refine HF.out.mono ?_
    rintro e w1 ⟨rfl, rfl⟩
    go_wp2
    go_ret2
    exact ⟨rfl, rfl⟩
  · rw [e1]
    have e2 := first_at (f := fun j => tf sl ob ad (p * 6 + j)) (n := 6) (x := none) hj (by
      show tf sl ob ad (p * 6 + j) = none
      rw [et j hj, h1]
      rfl) (fun i hi => by
      show tf sl ob ad (p * 6 + i) ≠ none
      rw [et i (by omega)]
      have := h2 i hi
      intro e
      rw [Option.map_eq_none_iff] at e
      exact this e)
    rw [e2] at hF
    have HF := Lib.hid hF
    have hj6 : (j : Int) < 6 := by omega
    clear hF e1 h1 h2 e2 et h
    go_enter Try.func78, Try.ntmps78
    go_wp2_with fail
    refine HF.out.mono ?_
    rintro e w1 ⟨rfl, rfl⟩
    go_wp2
    go_ret2
    exact ⟨rfl, rfl⟩

/-- The table, whatever the objects say of how many name them. -/
structure OTn (w : World) (B b : Nat) (sl : Nat → Option Nat) (ob : Nat → Option OB) (ad : Nat → Nat) (nm : Nat → Nat) : Prop where
  low : B ≤ b
  blk : Blk w b 111 (tab (tf sl ob ad)).toArray
  obs : ∀ d o, d < 36 → ob d = some o → B ≤ ad d ∧ Blk w (ad d) 114 (oc o (nm d))
  inj : ∀ d e o u, d < 36 → e < 36 → ob d = some o → ob e = some u → ad d = ad e → d = e
  val : ∀ i d, i < 42 → sl i = some d → d < 36 ∧ ∃ o, ob d = some o
  low6 : ∀ i, i < 6 → sl i = none
theorem OT.n {w : World} {B b : Nat} {sl : Nat → Option Nat} {ob : Nat → Option OB} {ad : Nat → Nat} (h : OT w B b sl ob ad) : OTn w B b sl ob ad (cnt sl) :=
  ⟨h.low, h.blk, h.obs, h.inj, h.val, h.low6⟩
section
variable {w : World} {B b : Nat} {sl : Nat → Option Nat} {ob : Nat → Option OB} {ad : Nat → Nat} {nm : Nat → Nat}
theorem OTn.ot (h : OTn w B b sl ob ad nm) (e : ∀ d o, d < 36 → ob d = some o → nm d = cnt sl d) : OT w B b sl ob ad :=
  ⟨h.low, h.blk, fun d o hd ho => by rw [← e d o hd ho]; exact h.obs d o hd ho, h.inj, h.val, h.low6⟩
theorem OTn.cell (h : OTn w B b sl ob ad nm) {i : Nat} (hi : i < 78) : w.cell? ⟨b, i, none⟩ = some (pq (tf sl ob ad i)) ∧ w.frozen? ⟨b, i, none⟩ = false := by
  refine ⟨?_, h.blk.frozen i⟩
  rw [h.blk.cell i]
  simpa using tab_get (tf sl ob ad) hi
theorem OTn.names (h : OTn w B b sl ob ad nm) {d : Nat} {o : OB} (hd : d < 36) (ho : ob d = some o) : w.cell? ⟨ad d, 3, none⟩ = some (.int .i64 (nm d : Int)) ∧ w.frozen? ⟨ad d, 3, none⟩ = false := by
  refine ⟨?_, (h.obs d o hd ho).2.frozen 3⟩
  rw [(h.obs d o hd ho).2.cell 3]
  rfl
theorem tab_congr {t u : Nat → Option Nat} (h : ∀ i, i < 78 → t i = u i) : tab t = tab u := by
  unfold tab
  exact List.map_congr_left fun i hi => by rw [h i (by simpa using hi)]
theorem OTn.bump (h : OTn w B b sl ob ad nm) {x : Nat} {o : OB} (hx : x < 36) (ho : ob x = some o) (n : Nat) :
    OTn (w.setCell ⟨ad x, 3, none⟩ (.int .i64 (n : Int))) B b sl ob ad (fun d => if d = x then n else nm d) ∧ Mod (OF w B b) w (w.setCell ⟨ad x, 3, none⟩ (.int .i64 (n : Int))) := by
  have hb := (h.obs x o hx ho)
  have hne : b ≠ ad x := h.blk.ne_ hb.2 (by decide)
  refine ⟨⟨h.low, h.blk.far hne _, fun d u hd hu => ⟨(h.obs d u hd hu).1, ?_⟩, h.inj, h.val, h.low6⟩, (Mod.refl _ w).setCell (.inl (.inr ⟨hb.1, _, hb.2⟩)) _⟩
  by_cases e : d = x
  · subst e
    rw [ho] at hu
    cases hu
    rw [if_pos rfl]
    exact hb.2.set_ 3 (.int .i64 (n : Int))
  · rw [if_neg e]
    exact (h.obs d u hd hu).2.far (p := ⟨ad x, 3, none⟩) (fun e2 => e (h.inj d x u o hd hx hu ho e2)) _
theorem OTn.put (h : OTn w B b sl ob ad nm) {i : Nat} (hi : i < 42) (h6 : 6 ≤ i) (x : Option Nat) (hx : ∀ d, x = some d → d < 36 ∧ ∃ o, ob d = some o) :
    OTn (w.setCell ⟨b, i, none⟩ (pq (x.map ad))) B b (upd sl i x) ob ad nm ∧ Mod (OF w B b) w (w.setCell ⟨b, i, none⟩ (pq (x.map ad))) := by
  refine ⟨⟨h.low, ?_, fun d u hd hu => ⟨(h.obs d u hd hu).1, ?_⟩, h.inj, ?_, ?_⟩, (Mod.refl _ w).setCell (.inl (.inl rfl)) _⟩
  · have := h.blk.set_ i (pq (x.map ad))
    have e : (tab (tf sl ob ad)).toArray.setIfInBounds i (pq (x.map ad)) = (tab (tf (upd sl i x) ob ad)).toArray := by
      rw [List.setIfInBounds_toArray, tab_set]
      congr 1
      refine tab_congr fun j hj => ?_
      by_cases e : j = i
      · subst e
        rw [upd_same]
        unfold tf
        rw [if_pos hi, upd_same]
      · rw [upd_ne _ _ e]
        unfold tf
        by_cases hj2 : j < 42
        · rw [if_pos hj2, if_pos hj2, upd_ne _ _ e]
        · rw [if_neg hj2, if_neg hj2]
    rw [e] at this
    exact this
  · have hb := (h.obs d u hd hu)
    exact hb.2.far (p := ⟨b, i, none⟩) (fun e => (h.blk.ne_ hb.2 (by decide)) e.symm) _
  · intro j d hj hd
    unfold upd at hd
    split at hd
    · exact hx d hd
    · exact h.val j d hj hd
  · intro j hj
    unfold upd
    rw [if_neg (by omega)]
    exact h.low6 j hj
theorem OTn.rem (h : OTn w B b sl ob ad nm) {d : Nat} (hd : d < 36) (hno : ∀ i, i < 42 → sl i ≠ some d) :
    OTn (w.setCell ⟨b, 42 + d, none⟩ (.pointer none)) B b sl (upd ob d none) ad nm ∧ Mod (OF w B b) w (w.setCell ⟨b, 42 + d, none⟩ (.pointer none)) := by
  have hup : ∀ e u, upd ob d none e = some u → e ≠ d ∧ ob e = some u := by
    intro e u hu
    unfold upd at hu
    split at hu
    · cases hu
    · rename_i he; exact ⟨he, hu⟩
  refine ⟨⟨h.low, ?_, fun e u he hu => ⟨(h.obs e u he (hup e u hu).2).1, ?_⟩, fun e f o u he hf ho hu => h.inj e f o u he hf (hup e o ho).2 (hup f u hu).2, ?_, h.low6⟩, (Mod.refl _ w).setCell (.inl (.inl rfl)) _⟩
  · have := h.blk.set_ (42 + d) (pq none)
    have e : (tab (tf sl ob ad)).toArray.setIfInBounds (42 + d) (pq none) = (tab (tf sl (upd ob d none) ad)).toArray := by
      rw [List.setIfInBounds_toArray, tab_set]
      congr 1
      refine tab_congr fun j hj => ?_
      by_cases e : j = 42 + d
      · subst e
        rw [upd_same]
        unfold tf
        rw [if_neg (by omega), show 42 + d - 42 = d by omega, upd_same]
        rfl
      · rw [upd_ne _ _ e]
        unfold tf
        by_cases hj2 : j < 42
        · rw [if_pos hj2, if_pos hj2]
        · rw [if_neg hj2, if_neg hj2, upd_ne _ _ (by omega)]
    rw [e] at this
    exact this
  · have hb := (h.obs e u he (hup e u hu).2)
    exact hb.2.far (p := ⟨b, 42 + d, none⟩) (fun e => (h.blk.ne_ hb.2 (by decide)) e.symm) _
  · intro i e hi he
    have h1 := h.val i e hi he
    refine ⟨h1.1, ?_⟩
    obtain ⟨o, ho⟩ := h1.2
    refine ⟨o, ?_⟩
    rw [upd_ne _ _ (fun e2 : e = d => by rw [e2] at he; exact hno i hi he), ho]
end
/-- How many name an object, behind a change of one slot. -/
theorem cnt_upd (sl : Nat → Option Nat) {i : Nat} (hi : i < 42) (x : Option Nat) (d : Nat) :
    cnt (upd sl i x) d + (if sl i = some d then 1 else 0) = cnt sl d + (if x = some d then 1 else 0) := by
  unfold cnt
  have key : ∀ l : List Nat, l.Nodup → i ∈ l → (l.filter fun j => upd sl i x j == some d).length + (if sl i = some d then 1 else 0) = (l.filter fun j => sl j == some d).length + (if x = some d then 1 else 0) := by
    intro l
    induction l with
    | nil => intro _ h; cases h
    | cons a r ih =>
      intro hn hm
      have hn' := List.nodup_cons.1 hn
      by_cases e : a = i
      · subst e
        have er : (r.filter fun j => upd sl a x j == some d) = r.filter fun j => sl j == some d := by
          refine List.filter_congr fun j hj => ?_
          have : j ≠ a := fun e => hn'.1 (e ▸ hj)
          simp [upd, this]
        have ea : upd sl a x a = x := by simp [upd]
        rw [List.filter_cons, List.filter_cons, er, ea]
        by_cases h1 : x = some d <;> by_cases h2 : sl a = some d <;> simp [h1, h2] <;> omega
      · have hm' : i ∈ r := by
          rcases List.mem_cons.1 hm with h | h
          · exact absurd h.symm e
          · exact h
        have := ih hn'.2 hm'
        have ea : upd sl i x a = sl a := by simp [upd, e]
        rw [List.filter_cons, List.filter_cons, ea]
        by_cases h2 : sl a = some d
        · simp [h2]; omega
        · simp [h2]; omega
  exact key _ List.nodup_range (by simpa using hi)
theorem cnt_le (sl : Nat → Option Nat) (d : Nat) : cnt sl d ≤ 42 := by
  unfold cnt
  refine Nat.le_trans (List.length_filter_le _ _) ?_
  simp
theorem cnt_zero {sl : Nat → Option Nat} {d : Nat} (h : cnt sl d = 0) : ∀ i, i < 42 → sl i ≠ some d := by
  intro i hi e
  unfold cnt at h
  rw [List.length_eq_zero_iff, List.filter_eq_nil_iff] at h
  exact h i (by simpa using hi) (by simp [e])
theorem cnt_pos {sl : Nat → Option Nat} {d i : Nat} (hi : i < 42) (h : sl i = some d) : 0 < cnt sl d := by
  rcases Nat.eq_zero_or_pos (cnt sl d) with h0 | h0
  · exact absurd h (cnt_zero h0 i hi)
  · exact h0
end Go.Proofs.Ytidmkdaegglepaa
