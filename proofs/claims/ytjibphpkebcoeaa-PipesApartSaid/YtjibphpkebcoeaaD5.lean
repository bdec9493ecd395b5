/- 'PipesApart' returns true. -/
import Derived.Test.YtjibphpkebcoeaaD1
import Derived.Test.YtjibphpkebcoeaaA7
set_option linter.all false
namespace Go.Proofs.Ytjibphpkebcoeaa
open Go.RowKit

theorem up_other {s : PS} {sid id : Int} {x : Option (Nat × ByteArray)} (h1 : ¬ (sid < 0 ∨ 3 ≤ sid)) (h2 : ¬ (id < 0 ∨ 3 ≤ id)) (hne : sid ≠ id) : up s sid.toNat x id.toNat = s id.toNat := by
  unfold up
  rw [if_neg (by omega)]
theorem apart_step (s : PS) (N : Nat) (wh sid n : Int) (x : ByteArray) (id : Int) (hne : sid ≠ id) (hw : 1 < wh) :
    waN (stepS s N wh sid n x) id = waN s id ∧ waE (stepS s N wh sid n x) id = waE s id := by
  by_cases h : id < 0 ∨ 3 ≤ id
  · simp [waN, waE, h]
  have key : stepS s N wh sid n x id.toNat = s id.toNat := by
    unfold stepS
    rw [if_neg (by omega)]
    by_cases hs : sid < 0 ∨ 3 ≤ sid
    · split
      · simp [clS, hs]
      · split
        · simp [wrS, hs]
        · split
          · unfold rdS
            split
            · rfl
            · simp [hs]
          · rfl
    · split
      · unfold clS
        rw [if_neg hs]
        rcases e : s sid.toNat with _ | ⟨c, d⟩
        · rfl
        · exact up_other hs h hne
      · split
        · unfold wrS
          rw [if_neg hs]
          rcases e : s sid.toNat with _ | ⟨c, d⟩
          · rfl
          · by_cases hz : 16 < x.size + d.size
            · simp only [if_pos hz]
            · simp only [if_neg hz]
              exact up_other hs h hne
        · split
          · unfold rdS
            by_cases hn : n < 0
            · rw [if_pos hn]
            · rw [if_neg hn, if_neg hs]
              rcases e : s sid.toNat with _ | ⟨c, d⟩
              · rfl
              · by_cases hz : (d.size : Int) < n
                · simp only [if_pos hz]
                  exact up_other hs h hne
                · simp only [if_neg hz]
                  exact up_other hs h hne
          · rfl
  simp [waN, waE, h, key]

set_option maxHeartbeats 3200000 in
set_option maxRecDepth 100000 in
theorem pipesApart_any (l : Nat → PStep) (v : Value) (n : Nat) (id : Int) (w : World) (hin : Inp w w.heap.size v n 4 (stepCells l)) :
    Calls Try.prog 9 #[v, .int .i64 id] w fun e w' => e = .returned (.bool true) ∧ Below w.heap.size w w' := by
  go_enter Try.func9, Try.ntmps9
  go_wp2_with fail
  refine (new_pr w w.heap.size (Nat.le_refl _)).mono ?_
  rintro e w1 ⟨rfl, h1, m1⟩
  have b1 := m1.below (Nat.le_refl _) (fun _ h => h.elim)
  go_wp2_with fail
  refine (long_any l v n w1 ((hin.below b1).mono m1.size)).mono ?_
  rintro e w2 ⟨rfl | ⟨rfl, hn, hs⟩, m2⟩
  · go_wp2_with fail
    refine (abc_any w2).mono ?_
    rintro e w3 ⟨rfl, m3⟩
    have b3 := (b1.trans (m2.mono m1.size)).trans (m3.mono (by have := m1.size; have := m2.size; omega))
    clear m1 m2 m3 b1 h1 hin
    go_wp2
    go_ret
    exact ⟨rfl, b3⟩
  · have b2 := b1.trans (m2.mono m1.size)
    have h2 := h1.mod (Mod.of_below m2) (fun _ _ h => h)
    have HS := Lib.hid hs
    have hr2 : RR (w2.alloc (.cells #[.slice none 0 0] 63)) w.heap.size w2.heap.size (ents (fun _ => none)) :=
      ⟨b2.size, by simp [ents, entAt], by simp [ents, entAt], .slice none 0 0, Blk.new _ _ _, World.ownsRow_nil _ _ _ _⟩
    have hp2 := h2.quiet ((Below.refl _ _).alloc (Nat.le_refl _) (.cells #[.slice none 0 0] 63))
    have b3 := b2.alloc b2.size (.cells #[.slice none 0 0] 63)
    clear hs m1 m2 b1 h1 h2
    obtain ⟨hnm, a, cap, rfl, hc⟩ := hin
    unfold maxLen at hnm
    go_wp2_with fail
    go_loopw [29] (fun i wr => ∃ (k : Nat) (s : PS), k ≤ n ∧ i = .int .i64 k ∧ PR wr w.heap.size w.heap.size s ∧ RR wr w.heap.size w2.heap.size (ents s) ∧ Below w.heap.size w wr) (fun i _ => n - (intOf i).toNat)
    case atStart => exact ⟨0, _, by omega, rfl, hp2, hr2, b3⟩
    case round =>
      obtain ⟨k, s, hk, rfl, hp, hr, hbel⟩ := hrel
      have hsz := hbel.size
      clear hp2 hr2 b3
      by_cases hlt : k < n
      · obtain ⟨b, off, rfl, hb, hcl⟩ := hc (by omega)
        have c0 := (hbel.cell (p := ⟨b, _, none⟩) hb).trans (hcl k hlt 0 (by omega))
        have c1 := (hbel.cell (p := ⟨b, _, none⟩) hb).trans (hcl k hlt 1 (by omega))
        have c2 := (hbel.cell (p := ⟨b, _, none⟩) hb).trans (hcl k hlt 2 (by omega))
        have c3 := (hbel.cell (p := ⟨b, _, none⟩) hb).trans (hcl k hlt 3 (by omega))
        clear hcl hc
        simp only [stepCells, Nat.add_zero] at c0 c1 c2 c3
        have hss := HS.out k hlt
        clear HS
        generalize (l k).what = wh at *
        generalize (l k).id = sid at *
        generalize (l k).n = nn at *
        generalize (l k).s = ss at *
        have ba := (Below.refl wr.heap.size wr).alloc (Nat.le_refl _) (.cells #[.int .i64 wh, .int .i64 sid, .int .i64 nn, .string ss] 31)
        have hp3 := hp.quiet ba
        have hr3 := hr.quiet ba
        have hb3 := hbel.trans (ba.mono hsz)
        clear hp hr hbel ba
        have hq3 : Blk (wr.alloc (.cells #[.int .i64 wh, .int .i64 sid, .int .i64 nn, .string ss] 31)) wr.heap.size 31 _ := Blk.new _ _ _
        go_wp2_with fail
        refine (waits_pr _ _ _ _ id hp3).mono ?_
        rintro e w4 ⟨rfl, rfl⟩
        go_wp2_with fail
        refine (does_any _ _ _ _ s wh sid nn ss hp3 hr3 hb3.size (by omega)).mono ?_
        rintro e w5 ⟨rfl, N, hp5, hr5, b5⟩
        have hq5 := b5.keep _ _ _ (by decide) (by decide) (by decide) (by decide) hq3
        have q0 : w5.cell? ⟨wr.heap.size, 0, none⟩ = some (.int .i64 wh) := hq5.cell 0
        have q1 : w5.cell? ⟨wr.heap.size, 1, none⟩ = some (.int .i64 sid) := hq5.cell 1
        have b6 := hb3.trans b5.bel
        have hap := fun h1 h2 => apart_step s N wh sid nn ss id h1 h2
        have HA := Lib.hid hap
        clear hap hb3 b5 hq5 hq3 hp3 hr3
        go_wp2_with fail
        refine (waits_pr _ _ _ _ id hp5).mono ?_
        rintro e w6 ⟨rfl, rfl⟩
        by_cases hne : sid = id
        · have e1 : (sid != id) = false := by simp [hne]
          clear hne
          go_wp2
          go_roundw
          case rel => exact ⟨k + 1, _, by omega, by go_num, hp5, hr5, b6⟩
          case measure => simp [intOf]; omega
        have e1 : (sid != id) = true := by simp [hne]
        by_cases hw1 : 1 < wh
        · obtain ⟨a1, a2⟩ := HA.out hne hw1
          rw [a1, a2]
          have e2 : decide (1 < wh) = true := by simpa using hw1
          clear hne hw1 a1 a2
          go_wp2
          go_roundw
          case rel => exact ⟨k + 1, _, by omega, by go_num, hp5, hr5, b6⟩
          case measure => simp [intOf]; omega
        · have e2 : decide (1 < wh) = false := by simpa using hw1
          clear hne hw1
          go_wp2
          go_roundw
          case rel => exact ⟨k + 1, _, by omega, by go_num, hp5, hr5, b6⟩
          case measure => simp [intOf]; omega
      · obtain rfl : k = n := by omega
        clear hc HS
        go_wp2_with fail
        refine (abc_any wr).mono ?_
        rintro e w5 ⟨rfl, m5⟩
        have b5 := hbel.trans (m5.mono hsz)
        clear m5 hp hr hbel
        go_wp2
        go_ret
        exact ⟨rfl, b5⟩
end Go.Proofs.Ytjibphpkebcoeaa
