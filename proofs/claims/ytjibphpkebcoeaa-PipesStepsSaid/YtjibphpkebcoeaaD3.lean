/- 'PipesSteps' returns true. -/
import Derived.Test.YtjibphpkebcoeaaD2
import Derived.Test.YtjibphpkebcoeaaA7
import Derived.Deep.RegionWith
set_option linter.all false
namespace Go.Proofs.Ytjibphpkebcoeaa
open Go.RowKit

theorem rr_new (w : World) (B : Nat) (hB : B ≤ w.heap.size) : RR (w.alloc (.cells #[.slice none 0 0] 63)) B w.heap.size (ents (fun _ => none)) :=
  ⟨hB, by simp [ents, entAt], by simp [ents, entAt], .slice none 0 0, Blk.new _ _ _, World.ownsRow_nil _ _ _ _⟩

theorem same_both {w4 w5 : World} {B rb : Nat} {s : PS} {v4 v5 : Value} (hr : RR w4 B rb (ents s)) (hb : Blk w4 rb 63 #[v4]) (hv : w5.ownsRow w4.heap.size 74 2 v5 (cnts s 3) (infos s 3)) (h5 : Below w4.heap.size w4 w5) :
    Calls Try.prog 33 #[v5, v4] w5 fun e w' => e = .returned (.bool true) ∧ Below w5.heap.size w5 w' := by
  obtain ⟨_, hl, _, v, hb', ho⟩ := hr
  have hvv : v = v4 := by
    unfold Blk at hb hb'
    rw [hb] at hb'
    simp only [Option.some.injEq, Obj.cells.injEq] at hb'
    simpa using hb'.1.symm
  subst hvv
  rw [infos_ents, cnts_ents] at hv
  have h3 := ents_len s
  have ho5 : w5.ownsRow B 75 2 v (ents s).length ((ents s).flatMap ec) := ownsRow_mod ho (Mod.of_below h5) (fun _ _ _ _ h => h)
  exact same_eq (ents s) v5 v w5 (own_inp ec_len hv rfl (by unfold maxLen; omega)) (own_inp ec_len ho5 rfl (by unfold maxLen; omega)) hl

set_option maxHeartbeats 3200000 in
set_option maxRecDepth 100000 in
theorem pipesSteps_any (l : Nat → PStep) (v : Value) (n : Nat) (w : World) (hin : Inp w w.heap.size v n 4 (stepCells l)) :
    Calls Try.prog 8 #[v] w fun e w' => e = .returned (.bool true) ∧ Below w.heap.size w w' := by
  go_enter Try.func8, Try.ntmps8
  go_wp2_with fail
  refine (new_pr w w.heap.size (Nat.le_refl _)).mono ?_
  rintro e w1 ⟨rfl, h1, m1⟩
  have b1 := m1.below (Nat.le_refl _) (fun _ h => h.elim)
  go_wp2_with fail
  refine (long_any l v n w1 ((hin.below b1).mono m1.size)).mono ?_
  rintro e w2 ⟨rfl | ⟨rfl, hn, hs⟩, m2⟩
  · go_wp2_with fail
    refine (abc_any w2).mono ?_
    rintro e w3 ⟨rfl, m3⟩
    have b3 := (b1.trans (m2.mono m1.size)).trans (m3.mono (by have := m1.size; have := m2.size; omega))
    clear m1 m2 m3 b1 h1 hin
    go_wp2
    go_ret
    exact ⟨rfl, b3⟩
  · have b2 := b1.trans (m2.mono m1.size)
    have h2 := h1.mod (Mod.of_below m2) (fun _ _ h => h)
    have HS := Lib.hid hs
    have hr2 := rr_new w2 w.heap.size b2.size
    have hp2 := h2.quiet ((Below.refl _ _).alloc (Nat.le_refl _) (.cells #[.slice none 0 0] 63))
    have b3 := b2.alloc b2.size (.cells #[.slice none 0 0] 63)
    clear hs m1 m2 b1 h1 h2
    obtain ⟨hnm, a, cap, rfl, hc⟩ := hin
    unfold maxLen at hnm
    go_wp2_with fail
    go_loopw [23] (fun i wr => ∃ (k : Nat) (s : PS), k ≤ n ∧ i = .int .i64 k ∧ PR wr w.heap.size w.heap.size s ∧ RR wr w.heap.size w2.heap.size (ents s) ∧ Below w.heap.size w wr) (fun i _ => n - (intOf i).toNat)
    case atStart => exact ⟨0, _, by omega, rfl, hp2, hr2, b3⟩
    case round =>
      obtain ⟨k, s, hk, rfl, hp, hr, hbel⟩ := hrel
      have hsz := hbel.size
      clear hp2 hr2 b3
      by_cases hlt : k < n
      · obtain ⟨b, off, rfl, hb, hcl⟩ := hc (by omega)
        have c0 := (hbel.cell (p := ⟨b, _, none⟩) hb).trans (hcl k hlt 0 (by omega))
        have c1 := (hbel.cell (p := ⟨b, _, none⟩) hb).trans (hcl k hlt 1 (by omega))
        have c2 := (hbel.cell (p := ⟨b, _, none⟩) hb).trans (hcl k hlt 2 (by omega))
        have c3 := (hbel.cell (p := ⟨b, _, none⟩) hb).trans (hcl k hlt 3 (by omega))
        clear hcl hc
        simp only [stepCells, Nat.add_zero] at c0 c1 c2 c3
        have hss := HS.out k hlt
        clear HS
        generalize (l k).what = wh at *
        generalize (l k).id = id at *
        generalize (l k).n = nn at *
        generalize (l k).s = ss at *
        have ba := (Below.refl wr.heap.size wr).alloc (Nat.le_refl _) (.cells #[.int .i64 wh, .int .i64 id, .int .i64 nn, .string ss] 31)
        have HP := Lib.hid (hp.quiet ba.drew)
        have HR := Lib.hid (hr.quiet ba.drew)
        have HB := Lib.hid (hbel.trans (ba.mono hsz).drew)
        clear hp hr hbel ba
        go_wp2_with fail
        go_region_with (first
          | (go_at_call 32; refine (does_any _ _ _ _ s wh id nn ss HP.out HR.out HB.out.size (by omega)).mono ?_; rintro e w4 ⟨rfl, N, hp4, hr4, b4⟩; have hr5 := hr4; obtain ⟨hl1, hl2, hl3, v4, hbk4, ho4⟩ := hr5; have k4 := hbk4.cell 0; simp at k4; have hlt4 := hbk4.lt)
          | (go_at_call 34; refine (list_pr _ _ _ _ hp4).mono ?_; rintro e w5 ⟨v5, rfl, hv5, b5⟩; have k5 := (b5.cell (p := ⟨w2.heap.size, 0, none⟩) hlt4).trans k4)
          | (go_at_call 33; refine (same_both hr4 hbk4 hv5 b5).mono ?_; rintro e w6 ⟨rfl, b6⟩))
        all_goals
          have b7 := (HB.out.trans b4.bel).trans ((b5.trans (b6.mono b5.size)).mono (Nat.le_trans HB.out.size b4.bel.size))
          have hP7 := (hp4.quiet b5).quiet b6
          have hR7 := (hr4.quiet b5).quiet b6
          clear b4 b5 b6 hv5 hr4 hbk4 hp4 ho4 k5 k4
          go_wp2
          go_roundw
          case rel => exact ⟨k + 1, _, by omega, by go_num, hP7, hR7, b7⟩
          case measure => simp [intOf]; omega
      · obtain rfl : k = n := by omega
        clear hc HS
        go_wp2_with fail
        refine (abc_any wr).mono ?_
        rintro e w5 ⟨rfl, m5⟩
        have b5 := hbel.trans (m5.mono hsz)
        clear m5 hp hr hbel
        go_wp2
        go_ret
        exact ⟨rfl, b5⟩
end Go.Proofs.Ytjibphpkebcoeaa
