/- Open objects: Add, New. -/
import Derived.Test.YtidmkdaegglepaaO6
set_option linter.all false
namespace Go.Proofs.Ytidmkdaegglepaa
open Go.RowKit

attribute [local go_sem ↓] guard_pq guard_pq_nil eql_pq_nil neq_pq_nil
def newId (ob : Nat → Option OB) : Option Nat := (List.range 36).find? fun d => (ob d).isNone
theorem newId_some {ob : Nat → Option OB} {d : Nat} (h : newId ob = some d) : d < 36 ∧ ob d = none ∧ ∀ e, e < d → ob e ≠ none := by
  unfold newId at h
  rw [List.find?_range_eq_some] at h
  refine ⟨by simpa using h.2.1, by simpa using h.1, fun e he q => ?_⟩
  have := h.2.2 e he
  rw [q] at this
  simp at this
def ORx (w : World) (B b : Nat) (r : Value) (S' : OS) (e : Ending) (w' : World) : Prop := e = .returned r ∧ (∃ ad, OW w' B b S' ad) ∧ Mod (OF w B b) w w'
theorem OR.x {w : World} {B b : Nat} {ad : Nat → Nat} {r : Value} {S' : OS} {e : Ending} {w' : World} (h : OR w B b ad r S' e w') : ORx w B b r S' e w' := ⟨h.1, ⟨ad, h.2.1⟩, h.2.2⟩
def setAd (ad : Nat → Nat) (d g : Nat) (e : Nat) : Nat := if e = d then g else ad e
theorem cnt_none {sl : Nat → Option Nat} {d : Nat} (h : ∀ i, i < 42 → sl i ≠ some d) : cnt sl d = 0 := by
  unfold cnt
  rw [List.length_eq_zero_iff, List.filter_eq_nil_iff]
  intro i hi hq
  exact h i (by simpa using hi) (by simpa using hq)
/-- An object more, that no slot names yet. -/
theorem OT.more {w : World} {B b : Nat} {sl : Nat → Option Nat} {ob : Nat → Option OB} {ad : Nat → Nat} (h : OT w B b sl ob ad) {d g : Nat} (k o : Int) (hd : d < 36) (hn : ob d = none) (hg : Blk w g 114 (oc ⟨k, o, 0⟩ 0)) (hB : B ≤ g)
    (hne : ∀ e u, e < 36 → ob e = some u → ad e ≠ g) :
    OT (w.setCell ⟨b, 42 + d, none⟩ (.pointer (some ⟨g, 0, none⟩))) B b sl (upd ob d (some ⟨k, o, 0⟩)) (setAd ad d g) ∧ Mod (OF w B b) w (w.setCell ⟨b, 42 + d, none⟩ (.pointer (some ⟨g, 0, none⟩))) := by
  have hs : ∀ i, i < 42 → sl i ≠ some d := fun i hi e => by
    obtain ⟨_, u, hu⟩ := h.val i d hi e
    rw [hn] at hu
    cases hu
  have hbg : b ≠ g := h.blk.ne_ hg (by decide)
  have hne2 : ∀ e u, e < 36 → upd ob d (some ⟨k, o, 0⟩) e = some u → e ≠ d → ob e = some u := fun e u _ hu q => by rwa [upd_ne _ _ q] at hu
  refine ⟨⟨h.low, ?_, fun e u he hu => ?_, fun e f u v he hf hu hv => ?_, fun i e hi he => ?_, h.low6⟩, (Mod.refl _ w).setCell (.inl (.inl rfl)) _⟩
  · have := h.blk.set_ (42 + d) (pq (some g))
    have e1 : (tab (tf sl ob ad)).toArray.setIfInBounds (42 + d) (pq (some g)) = (tab (tf sl (upd ob d (some ⟨k, o, 0⟩)) (setAd ad d g))).toArray := by
      rw [List.setIfInBounds_toArray, tab_set]
      congr 1
      refine tab_congr fun j hj => ?_
      by_cases q : j = 42 + d
      · subst q
        rw [upd_same]
        unfold tf
        rw [if_neg (by omega), show 42 + d - 42 = d by omega, upd_same]
        simp [setAd]
      · rw [upd_ne _ _ q]
        unfold tf
        by_cases hj2 : j < 42
        · rw [if_pos hj2, if_pos hj2]
          rcases e : sl j with _ | c
          · rfl
          · have : c ≠ d := fun q => hs j hj2 (by rw [e, q])
            simp [setAd, this]
        · rw [if_neg hj2, if_neg hj2, upd_ne _ _ (by omega)]
          have : j - 42 ≠ d := by omega
          simp [setAd, this]
    rw [e1] at this
    exact this
  · by_cases q : e = d
    · subst q
      rw [upd_same] at hu
      cases hu
      rw [cnt_none hs]
      have e2 : setAd ad e g e = g := by simp [setAd]
      rw [e2]
      exact ⟨hB, hg.far (p := ⟨b, 42 + e, none⟩) hbg.symm _⟩
    · have hu2 := hne2 e u he hu q
      have e2 : setAd ad d g e = ad e := by simp [setAd, q]
      rw [e2]
      have h1 := h.obs e u he hu2
      exact ⟨h1.1, h1.2.far (p := ⟨b, 42 + d, none⟩) (fun q => (h.blk.ne_ h1.2 (by decide)) q.symm) _⟩
  · intro q
    by_cases q1 : e = d
    · by_cases q2 : f = d
      · rw [q1, q2]
      · have e1 : setAd ad d g e = g := by simp [setAd, q1]
        have e2 : setAd ad d g f = ad f := by simp [setAd, q2]
        rw [e1, e2] at q
        exact absurd q.symm (hne f v hf (hne2 f v hf hv q2))
    · by_cases q2 : f = d
      · have e1 : setAd ad d g f = g := by simp [setAd, q2]
        have e2 : setAd ad d g e = ad e := by simp [setAd, q1]
        rw [e1, e2] at q
        exact absurd q (hne e u he (hne2 e u he hu q1))
      · have e1 : setAd ad d g f = ad f := by simp [setAd, q2]
        have e2 : setAd ad d g e = ad e := by simp [setAd, q1]
        rw [e1, e2] at q
        exact h.inj e f u v he hf (hne2 e u he hu q1) (hne2 f v hf hv q2) q
  · obtain ⟨h1, u, hu⟩ := h.val i e hi he
    refine ⟨h1, ?_⟩
    by_cases q : e = d
    · exact ⟨_, by rw [q, upd_same]⟩
    · exact ⟨u, by rw [upd_ne _ _ q]; exact hu⟩
def oaE (S : OS) (p k o : Int) : Int := if rg (addD p k o) then (if (freeS S.sl p.toNat).isSome then 0 else 5) else 1
def oaV (S : OS) (p k o : Int) : Int := if rg (addD p k o) then ((freeS S.sl p.toNat).getD 0 : Nat) else 0
def oaS (S : OS) (p k o : Int) : OS := if rg (addD p k o) then (match freeS S.sl p.toNat, newId S.ob with
  | some j, some d => setO ⟨S.sl, upd S.ob d (some ⟨k, o, 0⟩)⟩ (p.toNat * 6 + j) (some d)
  | _, _ => S) else S
set_option maxHeartbeats 3200000 in
theorem oadd_bad (w : World) (q : Value) (p k o : Int) (hr : rg (addD p k o) = false) :
    Calls Try.prog 49 #[q, .int .i64 p, .int .i64 k, .int .i64 o] w fun e w' => e = .returned (.tuple #[.int .i64 0, .int .i64 1]) ∧ Below w.heap.size w w' := by
  have hR := fun u => dright (addD p k o) u
  rw [hr] at hR
  have HR := Lib.hid hR
  clear hr hR
  unfold da addD at *
  simp only at *
  go_enter Try.func49, Try.ntmps49
  go_wp2_with fail
  refine (HR.out _).mono ?_
  rintro e w1 ⟨rfl, b1⟩
  clear HR
  go_wp2
  go_ret2
  exact ⟨rfl, b1⟩
set_option maxHeartbeats 3200000 in
theorem oadd_nil (w : World) (p k o : Int) (hr : rg (addD p k o) = true) :
    Calls Try.prog 49 #[.pointer none, .int .i64 p, .int .i64 k, .int .i64 o] w fun e w' => e = .returned (.tuple #[.int .i64 0, .int .i64 7]) ∧ Below w.heap.size w w' := by
  have hR := fun u => dright (addD p k o) u
  rw [hr] at hR
  have HR := Lib.hid hR
  clear hr hR
  unfold da addD at *
  simp only at *
  go_enter Try.func49, Try.ntmps49
  go_wp2_with fail
  refine (HR.out _).mono ?_
  rintro e w1 ⟨rfl, b1⟩
  clear HR
  go_wp2
  go_ret2
  exact ⟨rfl, b1⟩
set_option maxHeartbeats 6400000 in
set_option maxRecDepth 100000 in
theorem oadd_any (w : World) (B b : Nat) (S : OS) (ad : Nat → Nat) (p k o : Int) (h : OW w B b S ad) (hB : B ≤ w.heap.size) (hnew : freeS S.sl p.toNat ≠ none → newId S.ob ≠ none) :
    Calls Try.prog 49 #[.pointer (some ⟨b, 0, none⟩), .int .i64 p, .int .i64 k, .int .i64 o] w (ORx w B b (.tuple #[.int .i64 (oaV S p k o), .int .i64 (oaE S p k o)]) (oaS S p k o)) := by
  cases hr : rg (addD p k o)
  · have a1 : oaV S p k o = 0 := by simp [oaV, hr]
    have a2 : oaE S p k o = 1 := by simp [oaE, hr]
    have a3 : oaS S p k o = S := by simp [oaS, hr]
    rw [a1, a2, a3]
    exact (oadd_bad w _ p k o hr).mono fun e w' ⟨h1, h2⟩ => ⟨h1, ⟨ad, h.quiet h2⟩, mod_q h2⟩
  · have hR := fun u => dright (addD p k o) u
    rw [hr] at hR
    have hpp : 1 ≤ p ∧ p ≤ 6 := by
      have : Rg (addD p k o) := of_decide_eq_true hr
      unfold Rg addD at this
      exact ⟨this.1, this.2.1⟩
    obtain ⟨pn, rfl⟩ := Int.eq_ofNat_of_zero_le (show 0 ≤ p by omega)
    rw [Int.toNat_natCast] at hnew
    have hF := fun u (hu : OW u B b S ad) => ofree_any u B b S.sl S.ob ad pn hu (by omega) (by omega)
    unfold da addD at hR
    simp only at hR
    have HR := Lib.hid hR
    rcases free_cases S.sl pn with ⟨e1, _⟩ | ⟨j, hj, e1, hsj, _⟩
    · have a1 : oaV S pn k o = 0 := by simp [oaV, hr, e1]
      have a2 : oaE S pn k o = 5 := by simp [oaE, hr, e1]
      have a3 : oaS S pn k o = S := by simp [oaS, hr, e1]
      rw [a1, a2, a3]
      rw [e1] at hF
      unfold freeR at hF
      simp only at hF
      have HF := Lib.hid hF
      clear hR hF hr e1 a1 a2 a3 hnew
      go_enter Try.func49, Try.ntmps49
      go_wp2_with fail
      refine (HR.out _).mono ?_
      rintro e w1 ⟨rfl, b1⟩
      have h1 := OT.quiet h b1
      go_wp2_with fail
      refine (HF.out w1 h1).mono ?_
      rintro e w2 ⟨rfl, rfl⟩
      clear HR HF h
      go_wp2
      go_ret2
      exact ⟨rfl, ⟨ad, h1⟩, mod_q b1⟩
    · rcases hnw : newId S.ob with _ | d
      · exact absurd hnw (hnew (by rw [e1]; simp))
      obtain ⟨hd, hdn, hdf⟩ := newId_some hnw
      have a1 : oaV S pn k o = (j : Int) := by simp [oaV, hr, e1]
      have a2 : oaE S pn k o = 0 := by simp [oaE, hr, e1]
      have a3 : oaS S pn k o = setO ⟨S.sl, upd S.ob d (some ⟨k, o, 0⟩)⟩ (pn * 6 + j) (some d) := by simp [oaS, hr, e1, hnw]
      rw [a1, a2, a3]
      rw [e1] at hF
      unfold freeR at hF
      simp only at hF
      have HF := Lib.hid hF
      clear hR hF hr e1 a1 a2 a3 hnew hnw
      go_enter Try.func49, Try.ntmps49
      go_wp2_with fail
      refine (HR.out _).mono ?_
      rintro e w1 ⟨rfl, b1⟩
      have h1 := OT.quiet h b1
      go_wp2_with fail
      refine (HF.out w1 h1).mono ?_
      rintro e w2 ⟨rfl, rfl⟩
      have ba := (alloc_below w1 (.cells #[.int .i64 k, .int .i64 o, .int .i64 0, .int .i64 0] 114)).drew
      have b2 := b1.trans (ba.mono b1.size)
      have h2 := h1.quiet ba
      have hg := (Blk.new w1 114 #[.int .i64 k, .int .i64 o, .int .i64 0, .int .i64 0]).drew
      have hgne : ∀ e u, e < 36 → S.ob e = some u → ad e ≠ w1.heap.size := fun e u he hu q => by
        have := (h1.obs e u he hu).2.lt
        omega
      have hm := h2.more k o hd hdn hg (Nat.le_trans hB b1.size) hgne
      have hfst := first_any _ b 42 36 36 (fun j => tf S.sl S.ob ad (42 + j)) none (by omega) (fun j hj => h2.cell (by omega)) (PB.none _) (fun j hj => h2.pb _ (by omega))
      have e2 := first_at (f := fun j => tf S.sl S.ob ad (42 + j)) (n := 36) (x := none) hd (by
        show tf S.sl S.ob ad (42 + d) = none
        unfold tf
        rw [if_neg (by omega), show 42 + d - 42 = d by omega, hdn]
        rfl) (fun i hi => by
        show tf S.sl S.ob ad (42 + i) ≠ none
        unfold tf
        rw [if_neg (by omega), show 42 + i - 42 = i by omega]
        intro q
        rw [Option.map_eq_none_iff] at q
        exact hdf i hi q)
      rw [e2] at hfst
      have hN := name_any _ B b S.sl (upd S.ob d (some ⟨k, o, 0⟩)) (setAd ad d w1.heap.size) (pn * 6 + j) (some d) hm.1 (by omega) (by omega) (fun e he => by cases he; exact ⟨hd, _, upd_same _ _ _⟩)
      have esa : setAd ad d w1.heap.size d = w1.heap.size := by simp [setAd]
      unfold pq at hN
      simp only [Option.map_some, esa] at hN
      have k8 := h2.cell (i := 42 + d) (by omega)
      have k9 := h2.blk.frozen (42 + d)
      have HFS := Lib.hid hfst
      have HN := Lib.hid hN
      have HM := Lib.hid (And.intro hm.2 b2)
      have hd36 : (d : Int) < 36 := by omega
      clear HR HF h h1 h2 hg hm hfst hN ba b1 b2 hgne e2 hdf esa
      generalize hgi : pn * 6 + j = i at *
      clear hgi
      go_wp2_with fail
      go_region_held3 (fun _ => True)
        (trivial)
        (first
          | (go_at_call 76; refine HFS.out.mono ?_; rintro e w9 ⟨rfl, rfl⟩))
      all_goals
        clear k8 k9
        go_wp2_with fail
        refine HN.out.mono ?_
        rintro e w9 ⟨rfl, h9, m9⟩
        have m8 := OF.trans ((mod_q (F := OF w B b) HM.out.2).trans HM.out.1 (fun i hi hx => by
          rcases hx with rfl | ⟨q1, cs, q2⟩
          · exact .inl rfl
          · exact .inr ⟨q1, cs, (HM.out.2.block i hi).symm.trans q2⟩)) m9
        clear HN HM HFS m9
        go_wp2
        go_ret2
        exact ⟨rfl, ⟨_, h9⟩, m8⟩
end Go.Proofs.Ytidmkdaegglepaa
