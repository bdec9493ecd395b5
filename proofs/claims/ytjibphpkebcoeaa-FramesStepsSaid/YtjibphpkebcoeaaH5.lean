/- FramesSteps, the walk. -/
import Derived.Test.YtjibphpkebcoeaaH4
set_option linter.all false
namespace Go.Proofs.Ytjibphpkebcoeaa
open Go.RowKit

set_option maxHeartbeats 6400000 in
set_option maxRecDepth 100000 in
theorem framesSteps_any (n : Int) (l : Nat → FSt) (v : Value) (N : Nat) (w : World) (hin : Inp w w.heap.size v N 6 (fsc l)) :
    Calls Try.prog 5 #[.int .i64 n, v] w fun e w' => e = .returned (.bool true) ∧ Below w.heap.size w w' := by
  by_cases hn : n < 1 ∨ 64 < n
  · obtain ⟨_, a, cap, rfl, _⟩ := hin
    go_enter Try.func5, Try.ntmps5
    go_wp2_with fail
    refine (fnew_bad w n hn).mono ?_
    rintro e w1 ⟨rfl, rfl⟩
    rcases hn with hn | hn
    · have d0 : decide (n < 1) = true := by simpa using hn
      clear hn
      go_wp2_with fail
      refine (seven_any w).mono ?_
      rintro e w9 ⟨rfl, b9⟩
      go_wp2
      go_ret
      exact ⟨rfl, b9⟩
    · have d0 : decide (n < 1) = false := by simp; omega
      have d1 : decide (64 < n) = true := by simpa using hn
      clear hn
      go_wp2_with fail
      refine (seven_any w).mono ?_
      rintro e w9 ⟨rfl, b9⟩
      go_wp2
      go_ret
      exact ⟨rfl, b9⟩
  obtain ⟨n, rfl⟩ := Int.eq_ofNat_of_zero_le (show 0 ≤ n by omega)
  have hn1 : 1 ≤ n := by omega
  have hn2 : n ≤ 64 := by omega
  have d0 : decide ((n : Int) < 1) = false := by simp; omega
  have d1 : decide (64 < (n : Int)) = false := by simp; omega
  clear hn
  go_enter Try.func5, Try.ntmps5
  go_wp2_with fail
  refine (fnew_ok w w.heap.size n (Nat.le_refl _) hn1 hn2).mono ?_
  rintro e w1 ⟨m, rfl, h1, b1⟩
  go_wp2_with fail
  refine (flong_any l v N w1 ((hin.below b1).mono b1.size)).mono ?_
  rintro e w2 ⟨rfl | rfl, m2⟩
  · have b2 := b1.trans (m2.mono b1.size)
    clear m2 b1 h1 hin
    go_wp2_with fail
    refine (seven_any _).mono ?_
    rintro e w9 ⟨rfl, b9⟩
    have t9 := b2.trans (b9.mono b2.size)
    clear b9 b2
    go_wp2
    go_ret
    exact ⟨rfl, t9⟩
  · have b2 := b1.trans (m2.mono b1.size)
    have h2 := h1.quiet m2
    clear m2 b1 h1
    go_wp2_with fail
    refine (rnew w2 w.heap.size n b2.size ⟨hn1, hn2⟩).mono ?_
    rintro e w3 ⟨rb, rfl, r3, m3⟩
    have b3 := b2.trans (m3.mono b2.size)
    have h3 := h2.quiet m3
    clear m3 b2 h2
    obtain ⟨hnm, a, cap, rfl, hc⟩ := hin
    unfold maxLen at hnm
    go_wp2_with fail
    go_loopw [61] (fun i wr => ∃ (k : Nat) (xs : List UInt8), k ≤ N ∧ i = .int .i64 k ∧ FR wr w.heap.size m n xs ∧ RM wr w.heap.size rb n xs ∧ Below w.heap.size w wr) (fun i _ => N - (intOf i).toNat)
    case atStart => exact ⟨0, _, by omega, rfl, h3, r3, b3⟩
    case round =>
      obtain ⟨k, xs, hk, rfl, hp, hr, hbel⟩ := hrel
      have hsz := hbel.size
      clear h3 r3 b3
      by_cases hlt : k < N
      · obtain ⟨b, off, rfl, hb, hcl⟩ := hc (by omega)
        have c0 : wr.cell? _ = some (.int .i64 (l k).what) := (hbel.cell (p := ⟨b, _, none⟩) hb).trans (hcl k hlt 0 (by omega))
        have c1 : wr.cell? _ = some (.int .i64 (l k).a) := (hbel.cell (p := ⟨b, _, none⟩) hb).trans (hcl k hlt 1 (by omega))
        have c2 : wr.cell? _ = some (.int .i64 (l k).b) := (hbel.cell (p := ⟨b, _, none⟩) hb).trans (hcl k hlt 2 (by omega))
        have c3 : wr.cell? _ = some (.int .i64 (l k).at_) := (hbel.cell (p := ⟨b, _, none⟩) hb).trans (hcl k hlt 3 (by omega))
        have c4 : wr.cell? _ = some (.int .u8 ((l k).y.toNat : Int)) := (hbel.cell (p := ⟨b, _, none⟩) hb).trans (hcl k hlt 4 (by omega))
        have c5 : wr.cell? _ = some (.string (l k).s) := (hbel.cell (p := ⟨b, _, none⟩) hb).trans (hcl k hlt 5 (by omega))
        clear hcl hc
        simp only [Nat.add_zero] at c0
        generalize l k = t at *
        obtain ⟨wh, ta, tb, tat, ty, ts⟩ := t
        simp only at c0 c1 c2 c3 c4 c5
        have ba := alloc_below wr (.cells (fbx ⟨wh, ta, tb, tat, ty, ts⟩) 46)
        have hp3 := hp.quiet ba
        have hr3 := hr.quiet ba
        have hb3 := hbel.trans (ba.mono hsz)
        have hN : Blk (wr.alloc (.cells (fbx ⟨wh, ta, tb, tat, ty, ts⟩) 46)) wr.heap.size 46 _ := Blk.new _ _ _
        have hD := fdoes_any _ _ _ _ n xs ⟨wh, ta, tb, tat, ty, ts⟩ hp3 hr3 hb3.size
        unfold fbx at hD hN hb3
        have HD := Lib.hid hD
        have HN := Lib.hid hN
        clear hp hr hbel ba hD hN hp3 hr3
        go_wp2_with fail
        refine HD.out.mono ?_
        rintro e w5 ⟨rfl, hp5, hr5, b5⟩
        have hN5 := b5.keep _ _ HN.out
        have b6 := hb3.trans b5.bel
        clear hb3 b5 HD HN
        generalize stepF n xs ⟨wh, ta, tb, tat, ty, ts⟩ = zs at hp5 hr5
        have q1 : w5.cell? ⟨wr.heap.size, 1, none⟩ = some (.int .i64 ta) := hN5.cell 1
        have q2 : w5.cell? ⟨wr.heap.size, 2, none⟩ = some (.int .i64 tb) := hN5.cell 2
        have q3 : w5.cell? ⟨wr.heap.size, 3, none⟩ = some (.int .i64 tat) := hN5.cell 3
        have hl5 := hN5.lt
        go_wp2_with fail
        refine (get_fr w5 _ _ n zs ta tat hp5).mono ?_
        rintro e w6 ⟨rfl, m6⟩
        have hp6 := hp5.quiet m6
        have hr6 := hr5.quiet m6
        have hN6 := hN5.mod (Mod.of_below m6) (fun h => h)
        have t6 := b6.trans (m6.mono b6.size)
        have q1' : w6.cell? ⟨wr.heap.size, 1, none⟩ = some (.int .i64 ta) := hN6.cell 1
        have q2' : w6.cell? ⟨wr.heap.size, 2, none⟩ = some (.int .i64 tb) := hN6.cell 2
        have q3' : w6.cell? ⟨wr.heap.size, 3, none⟩ = some (.int .i64 tat) := hN6.cell 3
        clear q1 q2 q3 hp5 hr5 hN5 b6 m6
        go_wp2_with fail
        refine (rget w6 _ _ n zs ta tat hr6).mono ?_
        rintro e w6' ⟨rfl, rfl⟩
        generalize hgv : gtV n zs ta tat = gv
        generalize hge : gtE n ta tat = ge
        have hbc : bc gv = .int .u8 (gv.toNat : Int) := rfl
        rw [hbc]
        clear hgv hge hbc
        go_wp2_with fail
        refine (page_fr w6 _ _ n zs tb hp6).mono ?_
        rintro e w7 ⟨rfl, m7⟩
        have hp7 := hp6.quiet m7
        have hr7 := hr6.quiet m7
        have hN7 := hN6.mod (Mod.of_below m7) (fun h => h)
        have t7 := t6.trans (m7.mono t6.size)
        have q2 : w7.cell? ⟨wr.heap.size, 2, none⟩ = some (.int .i64 tb) := hN7.cell 2
        clear q1' q2' q3' hp6 hr6 hN6 t6 m7
        go_wp2_with fail
        refine (rpage w7 _ _ n zs tb hr7).mono ?_
        rintro e w7' ⟨rfl, rfl⟩
        generalize hps : pgS n zs tb = ps
        generalize hpe : pgE n tb = pe
        clear hps hpe hN7 q2
        go_wp2
        go_roundw
        case rel => exact ⟨k + 1, _, by omega, by go_num, hp7, hr7, t7⟩
        case measure => simp [intOf]; omega
      · obtain rfl : k = N := by omega
        clear hc hlt hk
        go_wp2_with fail
        refine (flen wr _ m n xs hp).mono ?_
        rintro e w4 ⟨rfl, rfl⟩
        clear hp hr
        go_wp2_with fail
        refine (seven_any _).mono ?_
        rintro e w9 ⟨rfl, b9⟩
        have t9 := hbel.trans (b9.mono hsz)
        clear b9 hbel
        go_wp2
        go_ret
        exact ⟨rfl, t9⟩
end Go.Proofs.Ytjibphpkebcoeaa
