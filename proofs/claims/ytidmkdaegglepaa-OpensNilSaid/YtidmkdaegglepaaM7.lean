/- Descriptors: Seek, Close. -/
import Derived.Test.YtidmkdaegglepaaM6
set_option linter.all false
namespace Go.Proofs.Ytidmkdaegglepaa
open Go.RowKit

def mv (x : DE) (off : Int) : DE := { x with off := off }
def skL (L : List DE) (p s off : Int) : List DE := L.map fun x => if isAt p s x then mv x off else x
def skE (L : List DE) (p s off : Int) : Int := match look L p s with | some x => if rg (mv x off) then 0 else 1 | none => 6
def skX (L : List DE) (p s off : Int) : List DE := match look L p s with | some x => if rg (mv x off) then skL L p s off else L | none => L
theorem look_sk (p s off q t : Int) : ∀ L : List DE, look (skL L p s off) q t = if q = p ∧ t = s then (look L p s).map (fun x => mv x off) else look L q t := by
  intro L
  induction L with
  | nil => simp [skL, look]
  | cons y r ih =>
    have e : skL (y :: r) p s off = (if isAt p s y then mv y off else y) :: skL r p s off := rfl
    rw [e, look_cons, look_cons, look_cons, ih]
    by_cases hy : isAt p s y = true
    · have hy' := isAt_iff.1 hy
      rw [if_pos hy, if_pos hy']
      have h1 : (mv y off).pid = y.pid := rfl
      have h2 : (mv y off).slot = y.slot := rfl
      rw [h1, h2]
      by_cases h : q = p ∧ t = s
      · rw [if_pos h, if_pos ⟨by rw [h.1]; exact hy'.1, by rw [h.2]; exact hy'.2⟩, if_pos h]
        rfl
      · have : ¬ (y.pid = q ∧ y.slot = t) := fun h3 => h ⟨by rw [← h3.1]; exact hy'.1, by rw [← h3.2]; exact hy'.2⟩
        rw [if_neg h, if_neg this, if_neg h, if_neg this]
    · have hy' : ¬ (y.pid = p ∧ y.slot = s) := fun h => hy (isAt_iff.2 h)
      rw [if_neg hy, if_neg hy']
      by_cases h : q = p ∧ t = s
      · rw [if_pos h, if_neg (fun h3 => hy' ⟨by rw [h3.1, h.1], by rw [h3.2, h.2]⟩), if_pos h]
      · rw [if_neg h, if_neg h]
attribute [local go_sem ↓] LK_eq UP_eq DL_eq
set_option maxHeartbeats 1600000 in
theorem seek_none (w : World) (q : Value) (L : List DE) (p s off : Int) (h : DP w q L) (hx : look L p s = none) :
    Calls Try.prog 29 #[q, .int .i64 p, .int .i64 s, .int .i64 off] w fun e w' => e = .returned (.int .i64 6) ∧ Below w.heap.size w w' := by
  have hA := at_any w q L p s h
  rw [(atB_none hx).1, (atB_none hx).2] at hA
  unfold kc da at hA
  simp only [dz] at hA
  have HA := Lib.hid hA
  clear hA hx h
  go_enter Try.func29, Try.ntmps29
  go_wp2_with fail
  refine HA.out.mono ?_
  rintro e w1 ⟨rfl, b1⟩
  clear HA
  go_wp2
  go_ret
  exact ⟨rfl, b1.alloc b1.size _⟩
set_option maxHeartbeats 3200000 in
set_option maxRecDepth 100000 in
theorem seek_dt (w : World) (B b : Nat) (L : List DE) (p s off : Int) (h : DT w B b L) :
    Calls Try.prog 29 #[.pointer (some ⟨b, 0, none⟩), .int .i64 p, .int .i64 s, .int .i64 off] w fun e w' => e = .returned (.int .i64 (skE L p s off)) ∧ DT w' B b (skX L p s off) ∧ Mod (DO w B b) w w' := by
  rcases hx : look L p s with _ | x
  · have e1 : skE L p s off = 6 := by simp [skE, hx]
    have e2 : skX L p s off = L := by simp [skX, hx]
    rw [e1, e2]
    exact (seek_none w _ L p s off (.inr ⟨B, b, rfl, h⟩) hx).mono fun e w' ⟨h1, h2⟩ => ⟨h1, h.quiet h2, mod_q h2⟩
  have hA := at_dt w B b L p s h
  rw [(atB_some hx).1, (atB_some hx).2] at hA
  have hps := (look_at hx).2
  have hR := fun u => dright (mv x off) u
  cases hr : rg (mv x off)
  · have e1 : skE L p s off = 1 := by simp [skE, hx, hr]
    have e2 : skX L p s off = L := by simp [skX, hx, hr]
    rw [e1, e2]
    rw [hr] at hR
    unfold kc at hA
    have HA := Lib.hid hA
    have HR := Lib.hid hR
    clear hA hR hx hr e1 e2 hps
    obtain ⟨y1, y2, y3, y4, y5⟩ := x
    unfold da mv at *
    simp only at *
    go_enter Try.func29, Try.ntmps29
    go_wp2_with fail
    refine HA.out.mono ?_
    rintro e w1 ⟨rfl, b1⟩
    have b2 := b1.alloc b1.size (.cells #[.int .i64 y1, .int .i64 y2, .int .i64 y3, .int .i64 y4, .int .i64 off] 23)
    have h1 := (h.quiet b2)
    clear HA b1 h
    go_wp2_with fail
    refine (HR.out _).mono ?_
    rintro e w2 ⟨rfl, b3⟩
    have h2 := h1.quiet b3
    have b4 := b2.trans (b3.mono b2.size)
    clear h1 b3 b2 HR
    go_wp2
    go_ret
    exact ⟨rfl, h2, mod_q b4⟩
  · have e1 : skE L p s off = 0 := by simp [skE, hx, hr]
    have e2 : skX L p s off = skL L p s off := by simp [skX, hx, hr]
    rw [e1, e2]
    rw [hr] at hR
    unfold kc at hA
    have hlk := fun q t => look_sk p s off q t L
    rw [hx] at hlk
    have HLK := Lib.hid hlk
    have HA := Lib.hid hA
    have HR := Lib.hid hR
    clear hA hR hx hr e1 e2 hlk
    obtain ⟨y1, y2, y3, y4, y5⟩ := x
    obtain ⟨rfl, rfl⟩ := hps
    unfold da mv at *
    simp only at *
    go_enter Try.func29, Try.ntmps29
    go_wp2_with fail
    refine HA.out.mono ?_
    rintro e w1 ⟨rfl, b1⟩
    have b2 := b1.alloc b1.size (.cells #[.int .i64 y1, .int .i64 y2, .int .i64 y3, .int .i64 y4, .int .i64 off] 23)
    have hN := Blk.new w1 23 #[.int .i64 y1, .int .i64 y2, .int .i64 y3, .int .i64 y4, .int .i64 off]
    have h1 := (h.quiet b2)
    clear HA b1 h
    go_wp2_with fail
    refine (HR.out _).mono ?_
    rintro e w2 ⟨rfl, b3⟩
    have h2 := h1.quiet b3
    have b4 := b2.trans (b3.mono b2.size)
    have hN2 := hN.mod (Mod.of_below b3) (fun h => h)
    have c0 := hN2.cell 0
    have c1 := hN2.cell 1
    have c2 := hN2.cell 2
    have c3 := hN2.cell 3
    have c4 := hN2.cell 4
    simp at c0 c1 c2 c3 c4
    obtain ⟨g, hg⟩ := h2.blk
    have k0 := hg.cell 0
    simp at k0
    obtain ⟨W2, hu, hm2, hd2⟩ := dt_up (V := w2.drew) (h2.quiet (Below.refl _ _).drew) ⟨y1, y2, y3, y4, off⟩
    have U1 := hu g hg
    unfold da kc at U1
    simp only at U1
    have HD2 := Lib.hid (And.intro hm2 hd2)
    clear h1 b3 b2 HR hu hm2 hd2 hN hN2 hg
    go_wp2_with fail
    go_region
    clear c0 c1 c2 c3 c4 k0 U1
    go_wp2
    go_ret
    refine ⟨rfl, HD2.out.2 _ fun q t => ?_, mod_via b4.drew HD2.out.1⟩
    rw [HLK.out]
    rfl
def clE (L : List DE) (p s : Int) : Int := if atB L p s then 0 else 6
def clL (L : List DE) (p s : Int) : List DE := L.filter fun x => !(isAt p s x)
theorem look_cl (p0 s0 p s : Int) : ∀ l : List DE, look (clL l p0 s0) p s = if p = p0 ∧ s = s0 then none else look l p s := by
  intro l
  induction l with
  | nil => simp [clL, look]
  | cons y r ih =>
    unfold clL at *
    by_cases hy : isAt p0 s0 y = true
    · have hy' := isAt_iff.1 hy
      rw [List.filter_cons_of_neg (by simp [hy]), ih, look_cons]
      by_cases h : p = p0 ∧ s = s0
      · rw [if_pos h, if_pos h]
      · rw [if_neg h, if_neg h, if_neg (fun h3 => h ⟨by rw [← h3.1]; exact hy'.1, by rw [← h3.2]; exact hy'.2⟩)]
    · have hy' : ¬ (y.pid = p0 ∧ y.slot = s0) := fun h => hy (isAt_iff.2 h)
      rw [List.filter_cons_of_pos (by simp [hy]), look_cons, look_cons, ih]
      by_cases h : p = p0 ∧ s = s0
      · rw [if_pos h, if_neg (fun h3 => hy' ⟨by rw [h3.1, h.1], by rw [h3.2, h.2]⟩), if_pos h]
      · rw [if_neg h, if_neg h]
set_option maxHeartbeats 1600000 in
theorem close_none (w : World) (q : Value) (L : List DE) (p s : Int) (h : DP w q L) (hx : atB L p s = false) :
    Calls Try.prog 30 #[q, .int .i64 p, .int .i64 s] w fun e w' => e = .returned (.int .i64 6) ∧ Below w.heap.size w w' := by
  have hA := at_any w q L p s h
  rw [hx] at hA
  generalize atV L p s = x at *
  obtain ⟨y1, y2, y3, y4, y5⟩ := x
  unfold kc da at hA
  simp only at hA
  have HA := Lib.hid hA
  clear hA hx h
  go_enter Try.func30, Try.ntmps30
  go_wp2_with fail
  refine HA.out.mono ?_
  rintro e w1 ⟨rfl, b1⟩
  clear HA
  go_wp2
  go_ret
  exact ⟨rfl, b1.alloc b1.size _⟩
set_option maxHeartbeats 3200000 in
set_option maxRecDepth 100000 in
theorem close_dt (w : World) (B b : Nat) (L : List DE) (p s : Int) (h : DT w B b L) :
    Calls Try.prog 30 #[.pointer (some ⟨b, 0, none⟩), .int .i64 p, .int .i64 s] w fun e w' => e = .returned (.int .i64 (clE L p s)) ∧ DT w' B b (clL L p s) ∧ Mod (DO w B b) w w' := by
  have hlk := fun q t => look_cl p s q t L
  by_cases hx : atB L p s = true
  · have e1 : clE L p s = 0 := by simp [clE, hx]
    rw [e1]
    have hA := at_dt w B b L p s h
    rw [hx] at hA
    generalize atV L p s = x at *
    obtain ⟨y1, y2, y3, y4, y5⟩ := x
    unfold kc da at hA
    simp only at hA
    have HA := Lib.hid hA
    have HLK := Lib.hid hlk
    clear hA hx hlk e1
    go_enter Try.func30, Try.ntmps30
    go_wp2_with fail
    refine HA.out.mono ?_
    rintro e w1 ⟨rfl, b1⟩
    have b2 := b1.alloc b1.size (.cells #[.int .i64 y1, .int .i64 y2, .int .i64 y3, .int .i64 y4, .int .i64 y5] 23)
    have h1 := (h.quiet b2)
    obtain ⟨g, hg⟩ := h1.blk
    have k0 := (hg.cell 0)
    simp at k0
    obtain ⟨g', hg'⟩ := (h.quiet b1).blk
    have k1 := (hg'.cell 0)
    have hlb := hg'.lt
    simp at k1
    obtain rfl : g' = g := by
      have := blk_map hg (hg'.alloc _)
      exact this
    obtain ⟨W2, hu, hm2, hd2⟩ := dt_del h1 p s
    have U1 := hu g' hg
    unfold kc at U1
    have HD2 := Lib.hid (And.intro hm2 hd2)
    clear HA b1 h h1 hu hm2 hd2 hg hg'
    go_wp2
    go_ret
    exact ⟨rfl, HD2.out.2 _ HLK.out, mod_via b2 HD2.out.1⟩
  · have hx' : atB L p s = false := by simpa using hx
    have e1 : clE L p s = 6 := by simp [clE, hx']
    rw [e1]
    have hl : look L p s = none := by unfold atB at hx'; simpa using hx'
    refine (close_none w _ L p s (.inr ⟨B, b, rfl, h⟩) hx').mono fun e w' ⟨h1, h2⟩ => ⟨h1, (h.quiet h2).congr fun q t => ?_, mod_q h2⟩
    rw [hlk]
    split
    · rename_i h3; rw [h3.1, h3.2, hl]
    · rfl
end Go.Proofs.Ytidmkdaegglepaa
