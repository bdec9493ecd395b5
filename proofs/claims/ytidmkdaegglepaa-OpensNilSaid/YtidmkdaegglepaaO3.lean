/- Open objects: name. -/
import Derived.Test.YtidmkdaegglepaaO2
set_option linter.all false
namespace Go.Proofs.Ytidmkdaegglepaa
open Go.RowKit

attribute [local go_sem ↓] guard_pq guard_pq_nil eql_pq_nil neq_pq_nil
/-- The objects behind a change of one slot. -/
def obN (sl : Nat → Option Nat) (ob : Nat → Option OB) (i : Nat) (x : Option Nat) : Nat → Option OB := match sl i with
  | none => ob
  | some d => if cnt (upd sl i x) d = 0 then upd ob d none else ob
/-- 'first' among the objects, from a table whose counts are whatever. -/
theorem first_ob {w : World} {B b : Nat} {sl : Nat → Option Nat} {ob : Nat → Option OB} {ad nm : Nat → Nat} (h : OTn w B b sl ob ad nm) {d : Nat} {o : OB} (hd : d < 36) (ho : ob d = some o) :
    Calls Try.prog 76 #[.slice (some ⟨b, 42, none⟩) 36 36, .pointer (some ⟨ad d, 0, none⟩)] w fun e w' => e = .returned (.int .i64 (d : Int)) ∧ w = w' := by
  have et : ∀ j, j < 36 → tf sl ob ad (42 + j) = (ob j).map fun _ => ad j := fun j hj => by
    unfold tf; rw [if_neg (by omega), show 42 + j - 42 = j by omega]
  have hpb : ∀ j, j < 36 → PB w (tf sl ob ad (42 + j)) := fun j hj g hg => by
    rw [et j hj] at hg
    rcases e : ob j with _ | u
    · rw [e] at hg; cases hg
    · rw [e] at hg
      cases hg
      exact ⟨_, (h.obs j u hj e).2⟩
  have hF := first_any w b 42 36 36 (fun j => tf sl ob ad (42 + j)) (some (ad d)) (by omega) (fun j hj => (h.cell (by omega)).1) (fun g hg => by cases hg; exact ⟨_, (h.obs d o hd ho).2⟩) hpb
  have e2 := first_at (f := fun j => tf sl ob ad (42 + j)) (n := 36) (x := some (ad d)) hd (by
    show tf sl ob ad (42 + d) = _
    rw [et d hd, ho]; rfl) (fun i hi e => by
    have e' : tf sl ob ad (42 + i) = some (ad d) := e
    rw [et i (by omega)] at e'
    rcases eo : ob i with _ | u
    · rw [eo] at e'; cases e'
    · rw [eo] at e'
      have e3 : ad i = ad d := by simpa using e'
      have := h.inj i d u o (by omega) hd eo ho e3
      omega)
  rw [e2] at hF
  exact hF
theorem sub_one {n : Nat} (h : 0 < n) : ((n : Int) - 1) = ((n - 1 : Nat) : Int) := by omega
theorem OTn.drew {w : World} {B b : Nat} {sl : Nat → Option Nat} {ob : Nat → Option OB} {ad nm : Nat → Nat} (h : OTn w B b sl ob ad nm) : OTn w.drew B b sl ob ad nm := ⟨h.low, h.blk, h.obs, h.inj, h.val, h.low6⟩
/-- The end: the one that was named is named by one less. -/
def NameR (w : World) (B b : Nat) (sl : Nat → Option Nat) (ob : Nat → Option OB) (ad : Nat → Nat) (e : Ending) (w' : World) : Prop :=
  e = .returned (.tuple #[]) ∧ OT w' B b sl ob ad ∧ Mod (OF w B b) w w'
set_option maxHeartbeats 3200000 in
set_option maxRecDepth 100000 in
theorem name_nn (w : World) (B b : Nat) (sl : Nat → Option Nat) (ob : Nat → Option OB) (ad : Nat → Nat) (i : Nat) (h : OT w B b sl ob ad) (hi : i < 42) (h6 : 6 ≤ i) (h0 : sl i = none) :
    Calls Try.prog 79 #[.pointer (some ⟨b, 0, none⟩), .pointer (some ⟨b, i, none⟩), .pointer none] w (NameR w B b (upd sl i none) (obN sl ob i none) ad) := by
  have e1 : obN sl ob i none = ob := by unfold obN; rw [h0]
  rw [e1]
  have c0 := h.n.cell (i := i) (by omega)
  have et : tf sl ob ad i = none := by unfold tf; rw [if_pos hi, h0]; rfl
  rw [et] at c0
  obtain ⟨c0, f0⟩ := c0
  unfold pq at c0
  simp only at c0
  have hp := h.n.put hi h6 none (fun d hd => by cases hd)
  have hc : ∀ d, cnt (upd sl i none) d = cnt sl d := fun d => by have := cnt_upd sl hi none d; rw [h0] at this; simpa using this
  have hfin := hp.1.ot (fun d o _ _ => (hc d).symm)
  have HH := Lib.hid (And.intro hfin hp.2)
  unfold pq at HH
  simp only [Option.map_none] at HH
  clear hp hc hfin h e1 et h0
  go_enter Try.func79, Try.ntmps79
  go_wp2
  go_end0
  exact ⟨rfl, HH.out.1, HH.out.2⟩
set_option maxHeartbeats 3200000 in
set_option maxRecDepth 100000 in
theorem name_sn (w : World) (B b : Nat) (sl : Nat → Option Nat) (ob : Nat → Option OB) (ad : Nat → Nat) (i x : Nat) (o : OB) (h : OT w B b sl ob ad) (hi : i < 42) (h6 : 6 ≤ i) (h0 : sl i = none) (hx : x < 36) (ho : ob x = some o) :
    Calls Try.prog 79 #[.pointer (some ⟨b, 0, none⟩), .pointer (some ⟨b, i, none⟩), .pointer (some ⟨ad x, 0, none⟩)] w (NameR w B b (upd sl i (some x)) (obN sl ob i (some x)) ad) := by
  have e1 : obN sl ob i (some x) = ob := by unfold obN; rw [h0]
  rw [e1]
  have hle := cnt_le sl x
  obtain ⟨n0, n1⟩ := h.n.names hx ho
  have hb := h.n.bump hx ho (cnt sl x + 1)
  obtain ⟨c0, f0⟩ := hb.1.cell (i := i) (by omega)
  have et : tf sl ob ad i = none := by unfold tf; rw [if_pos hi, h0]; rfl
  rw [et] at c0
  unfold pq at c0
  simp only at c0
  have hp := hb.1.put hi h6 (some x) (fun d hd => by cases hd; exact ⟨hx, o, ho⟩)
  have hc : ∀ d, cnt (upd sl i (some x)) d = cnt sl d + (if x = d then 1 else 0) := fun d => by have := cnt_upd sl hi (some x) d; rw [h0] at this; simpa using this
  have hfin := hp.1.ot (fun d o _ _ => by
    rw [hc d]
    by_cases e : d = x
    · rw [if_pos e, if_pos e.symm, e]
    · rw [if_neg e, if_neg (fun h => e h.symm)]; rfl)
  have hm := OF.trans hb.2 hp.2
  have HH := Lib.hid (And.intro hfin hm)
  unfold pq at HH
  simp only [Option.map_some] at HH
  have ec : ((cnt sl x : Int) + 1) = ((cnt sl x + 1 : Nat) : Int) := by omega
  have EC := Lib.hid ec
  generalize cnt sl x = n at *
  clear hp hc hfin h e1 et h0 hb hm ec
  rw [← EC.out] at c0 f0 HH
  go_enter Try.func79, Try.ntmps79
  go_wp2
  go_end0
  exact ⟨rfl, HH.out.1, HH.out.2⟩
set_option maxHeartbeats 3200000 in
set_option maxRecDepth 100000 in
theorem name_ns0 (w : World) (B b : Nat) (sl : Nat → Option Nat) (ob : Nat → Option OB) (ad : Nat → Nat) (i d : Nat) (o : OB) (h : OT w B b sl ob ad) (hi : i < 42) (h6 : 6 ≤ i) (h0 : sl i = some d) (hz : cnt sl d = 1) :
    Calls Try.prog 79 #[.pointer (some ⟨b, 0, none⟩), .pointer (some ⟨b, i, none⟩), .pointer none] w (NameR w B b (upd sl i none) (obN sl ob i none) ad) := by
  have hdv := h.val i d hi h0
  obtain ⟨hd, o2, ho⟩ := hdv
  have hpos := cnt_pos hi h0
  have hle := cnt_le sl d
  have hc : ∀ e, cnt (upd sl i none) e + (if d = e then 1 else 0) = cnt sl e + (if none = some e then 1 else 0) := fun e => by have := cnt_upd sl hi none e; rw [h0] at this; simpa using this
  obtain ⟨c0, f0⟩ := h.n.cell (i := i) (by omega)
  have et : tf sl ob ad i = some (ad d) := by unfold tf; rw [if_pos hi, h0]; rfl
  rw [et] at c0
  unfold pq at c0
  simp only at c0
  have hp := h.n.put hi h6 none (fun e he => by cases he)
  obtain ⟨m0, m1⟩ := hp.1.names hd ho
  have hq := hp.1.bump hd ho (cnt sl d - 1)
  obtain ⟨m2, _⟩ := hq.1.names hd ho
  have e1 : obN sl ob i none = upd ob d none := by
    unfold obN; rw [h0]
    simp only
    rw [if_pos]
    have := hc d
    simp at this
    omega
  have hz0 : cnt (upd sl i none) d = 0 := by
    have := hc d
    simp at this
    omega
  rw [e1]
  have hqd := hq.1.drew
  have HF := Lib.hid (first_ob hqd hd ho)
  have hr := hqd.rem hd (cnt_zero hz0)
  obtain ⟨k8, k9⟩ := hqd.cell (i := 42 + d) (by omega)
  have hfin := hr.1.ot (fun e u _ _ => by
    have := hc e
    by_cases q1 : e = d
    · subst q1
      simp at this ⊢
      omega
    · have e3 : ¬ d = e := fun h => q1 h.symm
      simp [q1, e3] at this ⊢
      omega)
  have hm := OF.trans ((OF.trans hp.2 hq.2)).drew hr.2
  have HH := Lib.hid (And.intro hfin hm)
  unfold pq at HH m0 m1 m2 HF k8 k9
  simp only [Option.map_none, Option.map_some] at HH m0 m1 m2 HF k8 k9
  have ed : ((cnt sl d : Int) - 1) = ((cnt sl d - 1 : Nat) : Int) := by omega
  simp only [if_true] at m2
  rw [← ed] at HH m2 HF k8 k9
  have d0 : ((cnt sl d : Int) - 1 == 0) = true := by simp; omega
  have hd36 : (d : Int) < 36 := by omega
  generalize hgn : cnt sl d = n at *
  clear hp hc hfin h e1 et h0 hm hq ed hr hqd hz0 hgn
  subst hz
  have w0 : ((1 : Nat) : Int) - 1 = 0 := rfl
  have w1 : ((1 : Nat) : Int) = 1 := rfl
  rw [w0] at HF HH m2 k8 k9
  rw [w1] at m0
  clear w0 w1
  go_enter Try.func79, Try.ntmps79
  go_wp2_with fail
  go_region_held3 (fun _ => True)
    (trivial)
    (first
      | (go_at_call 76; refine HF.out.mono ?_; rintro e w9 ⟨rfl, rfl⟩))
  all_goals
    go_wp2
    go_end0
    exact ⟨rfl, HH.out.1, HH.out.2⟩
set_option maxHeartbeats 3200000 in
set_option maxRecDepth 100000 in
theorem name_ns1 (w : World) (B b : Nat) (sl : Nat → Option Nat) (ob : Nat → Option OB) (ad : Nat → Nat) (i d : Nat) (o : OB) (h : OT w B b sl ob ad) (hi : i < 42) (h6 : 6 ≤ i) (h0 : sl i = some d) (hz : cnt sl d ≠ 1) :
    Calls Try.prog 79 #[.pointer (some ⟨b, 0, none⟩), .pointer (some ⟨b, i, none⟩), .pointer none] w (NameR w B b (upd sl i none) (obN sl ob i none) ad) := by
  have hdv := h.val i d hi h0
  obtain ⟨hd, o2, ho⟩ := hdv
  have hpos := cnt_pos hi h0
  have hle := cnt_le sl d
  have hc : ∀ e, cnt (upd sl i none) e + (if d = e then 1 else 0) = cnt sl e + (if none = some e then 1 else 0) := fun e => by have := cnt_upd sl hi none e; rw [h0] at this; simpa using this
  obtain ⟨c0, f0⟩ := h.n.cell (i := i) (by omega)
  have et : tf sl ob ad i = some (ad d) := by unfold tf; rw [if_pos hi, h0]; rfl
  rw [et] at c0
  unfold pq at c0
  simp only at c0
  have hp := h.n.put hi h6 none (fun e he => by cases he)
  obtain ⟨m0, m1⟩ := hp.1.names hd ho
  have hq := hp.1.bump hd ho (cnt sl d - 1)
  obtain ⟨m2, _⟩ := hq.1.names hd ho
  have e1 : obN sl ob i none = ob := by
    unfold obN; rw [h0]
    simp only
    rw [if_neg]
    have := hc d
    simp at this
    omega
  rw [e1]
  have hfin := hq.1.ot (fun e u _ _ => by
    have := hc e
    by_cases q1 : e = d
    · subst q1
      simp at this ⊢
      omega
    · have e3 : ¬ d = e := fun h => q1 h.symm
      simp [q1, e3] at this ⊢
      omega)
  have hm := (OF.trans hp.2 hq.2)
  have HH := Lib.hid (And.intro hfin hm)
  unfold pq at HH m0 m1 m2
  simp only [Option.map_none, Option.map_some] at HH m0 m1 m2
  have ed : ((cnt sl d : Int) - 1) = ((cnt sl d - 1 : Nat) : Int) := by omega
  simp only [if_true] at m2
  rw [← ed] at HH m2
  have d0 : ((cnt sl d : Int) - 1 == 0) = false := by simp; omega
  have hd36 : (d : Int) < 36 := by omega
  generalize hgn : cnt sl d = n at *
  clear hp hc hfin h e1 et h0 hm hq ed hgn
  go_enter Try.func79, Try.ntmps79
  go_wp2
  go_end0
  exact ⟨rfl, HH.out.1, HH.out.2⟩
set_option maxHeartbeats 3200000 in
set_option maxRecDepth 100000 in
theorem name_ss0 (w : World) (B b : Nat) (sl : Nat → Option Nat) (ob : Nat → Option OB) (ad : Nat → Nat) (i x d : Nat) (ox o : OB) (h : OT w B b sl ob ad) (hi : i < 42) (h6 : 6 ≤ i) (h0 : sl i = some d) (hx : x < 36) (hox : ob x = some ox) (hne : d ≠ x) (hz : cnt sl d = 1) :
    Calls Try.prog 79 #[.pointer (some ⟨b, 0, none⟩), .pointer (some ⟨b, i, none⟩), .pointer (some ⟨ad x, 0, none⟩)] w (NameR w B b (upd sl i (some x)) (obN sl ob i (some x)) ad) := by
  have hdv := h.val i d hi h0
  obtain ⟨hd, o2, ho⟩ := hdv
  have hpos := cnt_pos hi h0
  have hle := cnt_le sl d
  have hc : ∀ e, cnt (upd sl i (some x)) e + (if d = e then 1 else 0) = cnt sl e + (if (some x) = some e then 1 else 0) := fun e => by have := cnt_upd sl hi (some x) e; rw [h0] at this; simpa using this
  have hlx := cnt_le sl x
  obtain ⟨n0, n1⟩ := h.n.names hx hox
  have hb := h.n.bump hx hox (cnt sl x + 1)
  obtain ⟨c0, f0⟩ := hb.1.cell (i := i) (by omega)
  have et : tf sl ob ad i = some (ad d) := by unfold tf; rw [if_pos hi, h0]; rfl
  rw [et] at c0
  unfold pq at c0
  simp only at c0
  have hp := hb.1.put hi h6 (some x) (fun e he => by cases he; exact ⟨hx, ox, hox⟩)
  obtain ⟨m0, m1⟩ := hp.1.names hd ho
  have hq := hp.1.bump hd ho (cnt sl d - 1)
  obtain ⟨m2, _⟩ := hq.1.names hd ho
  have e1 : obN sl ob i (some x) = upd ob d none := by
    unfold obN; rw [h0]
    simp only
    rw [if_pos]
    have := hc d
    have e3 : ¬ x = d := fun h => hne h.symm
    simp [e3] at this
    omega
  have hz0 : cnt (upd sl i (some x)) d = 0 := by
    have := hc d
    have e3 : ¬ x = d := fun h => hne h.symm
    simp [e3] at this
    omega
  rw [e1]
  have hqd := hq.1.drew
  have HF := Lib.hid (first_ob hqd hd ho)
  have hr := hqd.rem hd (cnt_zero hz0)
  obtain ⟨k8, k9⟩ := hqd.cell (i := 42 + d) (by omega)
  have hfin := hr.1.ot (fun e u _ _ => by
    have := hc e
    by_cases q1 : e = d
    · subst q1
      have e3 : ¬ x = e := fun h => hne h.symm
      simp [e3] at this ⊢
      omega
    · by_cases q2 : e = x
      · subst q2
        have e3 : ¬ d = e := hne
        simp [e3] at this
        show (if e = d then _ else if e = e then _ else _) = _
        rw [if_neg q1, if_pos rfl]
        omega
      · have e3 : ¬ d = e := fun h => q1 h.symm
        have e4 : ¬ x = e := fun h => q2 h.symm
        simp [q1, q2, e3, e4] at this ⊢
        omega)
  have hm := OF.trans ((OF.trans hb.2 (OF.trans hp.2 hq.2))).drew hr.2
  have HH := Lib.hid (And.intro hfin hm)
  unfold pq at HH m0 m1 m2 HF k8 k9
  simp only [Option.map_none, Option.map_some] at HH m0 m1 m2 HF k8 k9
  have ec : ((cnt sl x : Int) + 1) = ((cnt sl x + 1 : Nat) : Int) := by omega
  have ed : ((cnt sl d : Int) - 1) = ((cnt sl d - 1 : Nat) : Int) := by omega
  simp only [if_neg hne, if_neg (show ¬ d = x from hne)] at m0
  simp only [if_true] at m2
  rw [← ec] at c0 f0 HH m0 m1 m2 HF k8 k9
  rw [← ed] at HH m2 HF k8 k9
  have d0 : ((cnt sl d : Int) - 1 == 0) = true := by simp; omega
  have hd36 : (d : Int) < 36 := by omega
  generalize hgn : cnt sl d = n at *
  generalize hgm : cnt sl x = m at *
  clear hp hc hfin h e1 et h0 hm hq hb ec ed hr hqd hz0 hgn hgm
  subst hz
  have w0 : ((1 : Nat) : Int) - 1 = 0 := rfl
  have w1 : ((1 : Nat) : Int) = 1 := rfl
  rw [w0] at HF HH m2 k8 k9
  rw [w1] at m0
  clear w0 w1
  go_enter Try.func79, Try.ntmps79
  go_wp2_with fail
  go_region_held3 (fun _ => True)
    (trivial)
    (first
      | (go_at_call 76; refine HF.out.mono ?_; rintro e w9 ⟨rfl, rfl⟩))
  all_goals
    go_wp2
    go_end0
    exact ⟨rfl, HH.out.1, HH.out.2⟩
set_option maxHeartbeats 3200000 in
set_option maxRecDepth 100000 in
theorem name_ss1 (w : World) (B b : Nat) (sl : Nat → Option Nat) (ob : Nat → Option OB) (ad : Nat → Nat) (i x d : Nat) (ox o : OB) (h : OT w B b sl ob ad) (hi : i < 42) (h6 : 6 ≤ i) (h0 : sl i = some d) (hx : x < 36) (hox : ob x = some ox) (hne : d ≠ x) (hz : cnt sl d ≠ 1) :
    Calls Try.prog 79 #[.pointer (some ⟨b, 0, none⟩), .pointer (some ⟨b, i, none⟩), .pointer (some ⟨ad x, 0, none⟩)] w (NameR w B b (upd sl i (some x)) (obN sl ob i (some x)) ad) := by
  have hdv := h.val i d hi h0
  obtain ⟨hd, o2, ho⟩ := hdv
  have hpos := cnt_pos hi h0
  have hle := cnt_le sl d
  have hc : ∀ e, cnt (upd sl i (some x)) e + (if d = e then 1 else 0) = cnt sl e + (if (some x) = some e then 1 else 0) := fun e => by have := cnt_upd sl hi (some x) e; rw [h0] at this; simpa using this
  have hlx := cnt_le sl x
  obtain ⟨n0, n1⟩ := h.n.names hx hox
  have hb := h.n.bump hx hox (cnt sl x + 1)
  obtain ⟨c0, f0⟩ := hb.1.cell (i := i) (by omega)
  have et : tf sl ob ad i = some (ad d) := by unfold tf; rw [if_pos hi, h0]; rfl
  rw [et] at c0
  unfold pq at c0
  simp only at c0
  have hp := hb.1.put hi h6 (some x) (fun e he => by cases he; exact ⟨hx, ox, hox⟩)
  obtain ⟨m0, m1⟩ := hp.1.names hd ho
  have hq := hp.1.bump hd ho (cnt sl d - 1)
  obtain ⟨m2, _⟩ := hq.1.names hd ho
  have e1 : obN sl ob i (some x) = ob := by
    unfold obN; rw [h0]
    simp only
    rw [if_neg]
    have := hc d
    have e3 : ¬ x = d := fun h => hne h.symm
    simp [e3] at this
    omega
  rw [e1]
  have hfin := hq.1.ot (fun e u _ _ => by
    have := hc e
    by_cases q1 : e = d
    · subst q1
      have e3 : ¬ x = e := fun h => hne h.symm
      simp [e3] at this ⊢
      omega
    · by_cases q2 : e = x
      · subst q2
        have e3 : ¬ d = e := hne
        simp [e3] at this
        show (if e = d then _ else if e = e then _ else _) = _
        rw [if_neg q1, if_pos rfl]
        omega
      · have e3 : ¬ d = e := fun h => q1 h.symm
        have e4 : ¬ x = e := fun h => q2 h.symm
        simp [q1, q2, e3, e4] at this ⊢
        omega)
  have hm := (OF.trans hb.2 (OF.trans hp.2 hq.2))
  have HH := Lib.hid (And.intro hfin hm)
  unfold pq at HH m0 m1 m2
  simp only [Option.map_none, Option.map_some] at HH m0 m1 m2
  have ec : ((cnt sl x : Int) + 1) = ((cnt sl x + 1 : Nat) : Int) := by omega
  have ed : ((cnt sl d : Int) - 1) = ((cnt sl d - 1 : Nat) : Int) := by omega
  simp only [if_neg hne, if_neg (show ¬ d = x from hne)] at m0
  simp only [if_true] at m2
  rw [← ec] at c0 f0 HH m0 m1 m2
  rw [← ed] at HH m2
  have d0 : ((cnt sl d : Int) - 1 == 0) = false := by simp; omega
  have hd36 : (d : Int) < 36 := by omega
  generalize hgn : cnt sl d = n at *
  generalize hgm : cnt sl x = m at *
  clear hp hc hfin h e1 et h0 hm hq hb ec ed hgn hgm
  go_enter Try.func79, Try.ntmps79
  go_wp2
  go_end0
  exact ⟨rfl, HH.out.1, HH.out.2⟩
set_option maxHeartbeats 3200000 in
set_option maxRecDepth 100000 in
theorem name_same (w : World) (B b : Nat) (sl : Nat → Option Nat) (ob : Nat → Option OB) (ad : Nat → Nat) (i x : Nat) (ox : OB) (h : OT w B b sl ob ad) (hi : i < 42) (h6 : 6 ≤ i) (h0 : sl i = some x) (hx : x < 36) (hox : ob x = some ox) :
    Calls Try.prog 79 #[.pointer (some ⟨b, 0, none⟩), .pointer (some ⟨b, i, none⟩), .pointer (some ⟨ad x, 0, none⟩)] w (NameR w B b (upd sl i (some x)) (obN sl ob i (some x)) ad) := by
  have hpos := cnt_pos hi h0
  have hle := cnt_le sl x
  have hc : ∀ e, cnt (upd sl i (some x)) e + (if x = e then 1 else 0) = cnt sl e + (if (some x) = some e then 1 else 0) := fun e => by have := cnt_upd sl hi (some x) e; rw [h0] at this; simpa using this
  have hlx := cnt_le sl x
  obtain ⟨n0, n1⟩ := h.n.names hx hox
  have hb := h.n.bump hx hox (cnt sl x + 1)
  obtain ⟨c0, f0⟩ := hb.1.cell (i := i) (by omega)
  have et : tf sl ob ad i = some (ad x) := by unfold tf; rw [if_pos hi, h0]; rfl
  rw [et] at c0
  unfold pq at c0
  simp only at c0
  have hp := hb.1.put hi h6 (some x) (fun e he => by cases he; exact ⟨hx, ox, hox⟩)
  obtain ⟨m0, m1⟩ := hp.1.names hx hox
  have hq := hp.1.bump hx hox (cnt sl x)
  obtain ⟨m2, _⟩ := hq.1.names hx hox
  have e1 : obN sl ob i (some x) = ob := by
    unfold obN; rw [h0]
    simp only
    rw [if_neg]
    have := hc x
    simp at this
    omega
  rw [e1]
  have hfin := hq.1.ot (fun e u _ _ => by
    have := hc e
    by_cases q1 : e = x
    · subst q1
      simp at this ⊢
      omega
    · have e3 : ¬ x = e := fun h => q1 h.symm
      simp [q1, e3] at this ⊢
      omega)
  have hm := (OF.trans hb.2 (OF.trans hp.2 hq.2))
  have HH := Lib.hid (And.intro hfin hm)
  unfold pq at HH m0 m1 m2
  simp only [Option.map_none, Option.map_some] at HH m0 m1 m2
  have ec : ((cnt sl x : Int) + 1) = ((cnt sl x + 1 : Nat) : Int) := by omega
  simp only [if_true] at m0
  simp only [if_true] at m2
  rw [← ec] at c0 f0 HH m0 m1 m2
  have d0 : ((cnt sl x : Int) == 0) = false := by simp; omega
  generalize hgn : cnt sl x = n at *
  clear hp hc hfin h e1 et h0 hm hq hb ec hgn
  go_enter Try.func79, Try.ntmps79
  go_wp2
  go_end0
  exact ⟨rfl, HH.out.1, HH.out.2⟩
end Go.Proofs.Ytidmkdaegglepaa
