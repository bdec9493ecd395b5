/- 'pipes.Load'. -/
import Derived.Test.YtjibphpkebcoeaaD2
import Derived.Test.YtjibphpkebcoeaaA7
import Derived.Test.YtjibphpkebcoeaaE2
import Derived.BigRegion
import Derived.RegionTactic
import Derived.ChangeAlike
set_option linter.all false
namespace Go.Proofs.Ytjibphpkebcoeaa
open Go.RowKit

def look (l : List Ent) (i : Nat) : Option ByteArray := (l.find? fun x => decide (x.1 = (i : Int))).map (·.2)
def okAt (s : PS) (x : Ent) : Bool := decide (0 ≤ x.1) && decide (x.1 < 3) && (s x.1.toNat).isNone && decide (x.2.size ≤ 16)

theorem cnts_up {s : PS} {i k N : Nat} {d : ByteArray} (hi : i < 3) (hs : s i = none) (h : Hid (cnts s 3 = k)) : Hid (cnts (up s i (some (N, d))) 3 = k + 1) := by
  have h := h.out
  show _ = _
  subst h
  match i, hi with
  | 0, _ => simp [cnts, cntAt, up, hs]; omega
  | 1, _ => simp [cnts, cntAt, up, hs]; omega
  | 2, _ => simp [cnts, cntAt, up, hs]
theorem look_snoc (l : List Ent) (x : Ent) (j : Nat) : look (l ++ [x]) j = (look l j).or (if x.1 = (j : Int) then some x.2 else none) := by
  unfold look
  rw [List.find?_append]
  rcases e : (l.find? fun x => decide (x.1 = (j : Int))) with _ | y
  · by_cases h : x.1 = (j : Int) <;> simp [h]
  · by_cases h : x.1 = (j : Int) <;> simp [h]
theorem look_up {s : PS} {i k N : Nat} {d : ByteArray} {l : List Ent} (hi : i < 3) (hx : l[k]? = some ((i : Int), d)) (hs : s i = none) (h : Hid (∀ i, i < 3 → (s i).map (·.2) = look (l.take k) i)) :
    Hid (∀ j, j < 3 → (up s i (some (N, d)) j).map (·.2) = look (l.take (k + 1)) j) := by
  intro j hj
  have hl := h.out j hj
  rw [take_snoc_list hx, look_snoc, ← hl]
  unfold up
  by_cases e : j = i
  · subst e
    simp [hs]
  · have e' : ¬ ((i : Int) = (j : Int)) := by omega
    simp [e, e']

theorem look_none {l : List Ent} {j : Nat} (h : look l j = none) : ∀ (i : Nat) (y : Ent), l[i]? = some y → y.1 ≠ (j : Int) := by
  intro i y hy
  unfold look at h
  simp only [Option.map_eq_none_iff, List.find?_eq_none] at h
  have := h y (List.mem_of_getElem? hy)
  simpa using this
theorem none_look {l : List Ent} {j : Nat} (h : ∀ (i : Nat) (y : Ent), l[i]? = some y → y.1 ≠ (j : Int)) : look l j = none := by
  unfold look
  simp only [Option.map_eq_none_iff, List.find?_eq_none]
  intro y hy
  obtain ⟨i, hi⟩ := List.mem_iff_getElem?.1 hy
  simpa using h i y hi
theorem right_all {l : List Ent} (h : ∀ j, j < l.length → RightAt l j) : RightP l := fun j => by
  by_cases hj : j < l.length
  · exact h j hj
  · intro x hx
    have := (List.getElem?_eq_some_iff.1 hx).1
    omega
theorem right_step {s : PS} {i k : Nat} {d : ByteArray} {l : List Ent} (hi : i < 3) (hd : d.size ≤ 16) (hx : l[k]? = some ((i : Int), d)) (hs : s i = none) (h : ∀ i, i < 3 → (s i).map (·.2) = look (l.take k) i)
    (hr : ∀ j, j < k → RightAt l j) : Hid (∀ j, j < k + 1 → RightAt l j) := by
  intro j hj
  rcases Nat.lt_or_ge j k with h1 | h1
  · exact hr j h1
  · obtain rfl : j = k := by omega
    intro x hx'
    rw [hx] at hx'
    cases hx'
    have hl := h i hi
    rw [hs] at hl
    refine ⟨by simp, by show (i : Int) ≤ 2; omega, hd, fun m y hm hy => look_none hl.symm m y ?_⟩
    rw [List.getElem?_take, if_pos hm]
    exact hy
theorem not_right {s : PS} {k : Nat} {x : Ent} {l : List Ent} (hx : l[k]? = some x) (hb : okAt s x = false) (h : ∀ i, i < 3 → (s i).map (·.2) = look (l.take k) i) : ¬ RightP l := by
  intro hr
  obtain ⟨h1, h2, h3, h4⟩ := hr k x hx
  obtain ⟨i, hi⟩ := Int.eq_ofNat_of_zero_le h1
  have hl := h i (by omega)
  have hn : look (l.take k) i = none := none_look fun m y hy => by
    rw [List.getElem?_take] at hy
    split at hy
    · rw [← hi]; exact h4 m y ‹_› hy
    · cases hy
  rw [hn] at hl
  simp only [Option.map_eq_none_iff] at hl
  have e : x.1.toNat = i := by rw [hi]; simp
  have h2' : (i : Int) < 3 := by omega
  simp [okAt, e, hl, hi, h3] at hb
  omega

set_option maxHeartbeats 3200000 in
set_option maxRecDepth 100000 in
theorem load_any (l : List Ent) (v : Value) (w : World) (hin : Inp w w.heap.size v l.length 2 (atl ec l)) (hl : l.length ≤ 1000) :
    Calls Try.prog 37 #[v] w fun e w' => Below w.heap.size w w' ∧
      ((∃ s, e = .returned (.tuple #[.pointer (some ⟨w.heap.size, 0, none⟩), .int .i64 0]) ∧ PR w' w.heap.size w.heap.size s ∧ cnts s 3 = l.length ∧ (∀ i, i < 3 → (s i).map (·.2) = look l i) ∧ RightP l) ∨
       (e = .returned (.tuple #[.pointer none, .int .i64 4]) ∧ ¬ RightP l)) := by
  obtain ⟨_, a, cap, rfl, hc⟩ := hin
  go_enter Try.func37, Try.ntmps37
  go_wp2_with fail
  refine (new_pr w w.heap.size (Nat.le_refl _)).mono ?_
  rintro e w1 ⟨rfl, h1, m1⟩
  have b1 := m1.below (Nat.le_refl _) (fun _ h => h.elim)
  go_wp2_with fail
  go_loopw [10] (fun i wr => ∃ (k : Nat) (s : PS), k ≤ l.length ∧ i = .int .i64 k ∧ Hid (cnts s 3 = k) ∧ Hid (∀ i, i < 3 → (s i).map (·.2) = look (l.take k) i) ∧ Hid (∀ j, j < k → RightAt l j) ∧ PR wr w.heap.size w.heap.size s ∧ Below w.heap.size w wr) (fun i _ => l.length - (intOf i).toNat)
  case atStart => exact ⟨0, _, by omega, rfl, by simp [Hid, cnts, cntAt], fun i hi => by simp [look], fun j hj => absurd hj (by omega), h1, b1⟩
  case round =>
    obtain ⟨k, s, hk, rfl, hcn, hlk, hrt, hp, hbel⟩ := hrel
    have hsz := hbel.size
    clear h1 m1 b1
    by_cases hlt : k < l.length
    · obtain ⟨b, off, rfl, hb, hcl⟩ := hc (by omega)
      have hx : l[k]? = some (l[k]'hlt) := List.getElem?_eq_getElem hlt
      generalize l[k]'hlt = x at hx
      have c0 := (hbel.cell (p := ⟨b, _, none⟩) hb).trans (hcl k hlt 0 (by omega))
      have c1 := (hbel.cell (p := ⟨b, _, none⟩) hb).trans (hcl k hlt 1 (by omega))
      rw [atl_get hx (v := .int .i64 x.1) rfl] at c0
      rw [atl_get hx (v := .string x.2) rfl] at c1
      simp only [Nat.add_zero] at c0
      clear hcl hc
      obtain ⟨id, d⟩ := x
      simp only at c0 c1
      have HX := Lib.hid hx
      have ba := (Below.refl wr.heap.size wr).alloc (Nat.le_refl _) (.cells #[.int .i64 id, .string d] 74)
      have hq : Blk (wr.alloc (.cells #[.int .i64 id, .string d] 74)) wr.heap.size 74 _ := Blk.new _ _ _
      have l0 := hq.cell 0
      have l1 := hq.cell 1
      have hp1 := hp.quiet ba
      have hb1 := hbel.trans (ba.mono hsz)
      clear hx
      by_cases hid : id < 0 ∨ 3 ≤ id
      · have hbad : okAt s (id, d) = false := by
          unfold okAt
          rcases hid with h | h
          · have : decide (0 ≤ id) = false := by simp; omega
            simp only [this, Bool.false_and]
          · have : decide (id < 3) = false := by simp; omega
            simp only [this, Bool.and_false, Bool.false_and]
        have HBad := Lib.hid hbad
        have HB1 := Lib.hid hb1
        clear hbad hp hbel hq hp1 hb1 ba
        go_wp2_with fail
        go_quiet ((go_at_call 51; exact Calls.quiet_of_same ((number_no _ _ hid).mono fun _ _ h => ⟨h.1, h.2.symm⟩)))
        go_wp2
        go_ret2
        exact ⟨bel_drewN HB1.out _, .inr ⟨rfl, not_right HX.out HBad.out hlk.out⟩⟩
      · obtain ⟨i, rfl⟩ := Int.eq_ofNat_of_zero_le (show 0 ≤ id by omega)
        have hi : i < 3 := by omega
        have hi0 : (0 : Int) ≤ (i : Int) := by omega
        have hi3 : (i : Int) < 3 := by omega
        have t0 := (hp.Tab i hi).1
        have tlt := hp.tab.lt
        have d0 : decide (0 ≤ (i : Int)) = true := by simp
        have d3 : decide ((i : Int) < 3) = true := by simpa using hi3
        rcases hsi : s i with _ | ⟨c, dd⟩
        · rw [hsi] at t0
          simp only [pv] at t0
          by_cases hz : 16 < d.size
          · have hbad : okAt s ((i : Int), d) = false := by
              have : decide (d.size ≤ 16) = false := by simp; omega
              simp only [okAt, this, Bool.and_false]
            have HBad := Lib.hid hbad
            have HB1 := Lib.hid hb1
            have hzd : decide (16 < (d.size : Int)) = true := by simp; omega
            clear hbad hp hbel hq hp1 hb1 ba hsi hid
            go_wp2_with fail
            go_quiet ((go_at_call 51; exact Calls.quiet_of_same ((number_yes _ _ hi0 hi3).mono fun _ _ h => ⟨h.1, h.2.symm⟩)))
            go_wp2
            go_ret2
            exact ⟨bel_drewN HB1.out _, .inr ⟨rfl, not_right HX.out HBad.out hlk.out⟩⟩
          · have hzd : decide (16 < (d.size : Int)) = false := by simp; omega
            have hz' : d.size ≤ 16 := by omega
            have HSI := Lib.hid hsi
            have f0 := (hp.Tab i hi).2
            clear hp hbel hq ba hsi hid
            have HP1 := Lib.hid hp1
            have HB1 := Lib.hid hb1
            clear hp1 hb1
            go_wp2_with fail
            go_quiet ((go_at_call 51; exact Calls.quiet_of_same ((number_yes _ _ hi0 hi3).mono fun _ _ h => ⟨h.1, h.2.symm⟩)))
            go_wp2_with fail
            go_region
            go_wp2
            have hW := (HP1.out.mod ((Mod.refl Nothing _).drewN (nq + 1)) (fun _ _ h => h)).opened (by simp; omega) i hi d hz'
            have eW : ((wr.alloc (Obj.cells #[Value.int IntKind.i64 (i : Int), Value.string d] 74)).drewN (nq + 1)).heap.size = wr.heap.size + 1 := World.size_alloc _ _
            rw [eW] at hW
            have hB2 := (((bel_drewN HB1.out (nq + 1)).setCell (p := ⟨w.heap.size, i, none⟩) (Nat.le_refl _) (.pointer (some ⟨wr.heap.size + 1, 0, none⟩))).alloc (by rw [World.size_setCell, eW]; omega) (.cells #[.string d] 83))
            go_roundw
            case rel => exact ⟨k + 1, _, by omega, by go_num, cnts_up hi HSI.out hcn, look_up hi HX.out HSI.out hlk, right_step hi hz' HX.out HSI.out hlk.out hrt.out, hW, hB2⟩
            case measure => simp [intOf]; omega
        · rw [hsi] at t0
          simp only [pv] at t0
          have hbad : okAt s ((i : Int), d) = false := by
            simp [okAt, hsi]
          have HBad := Lib.hid hbad
          have HB1 := Lib.hid hb1
          clear hbad hp hbel hq hp1 hb1 ba hsi hid
          go_wp2_with fail
          go_quiet ((go_at_call 51; exact Calls.quiet_of_same ((number_yes _ _ hi0 hi3).mono fun _ _ h => ⟨h.1, h.2.symm⟩)))
          go_wp2
          go_ret2
          exact ⟨bel_drewN HB1.out _, .inr ⟨rfl, not_right HX.out HBad.out hlk.out⟩⟩
    · obtain rfl : k = l.length := by omega
      have hcn' := hcn.out
      have hlk' := hlk.out
      rw [List.take_length] at hlk'
      clear hc hcn hlk
      have HC := Lib.hid hcn'
      have HK := Lib.hid hlk'
      clear hcn' hlk'
      go_wp2
      go_ret2
      exact ⟨hbel, .inl ⟨s, rfl, hp, HC.out, HK.out, right_all hrt.out⟩⟩
end Go.Proofs.Ytjibphpkebcoeaa
