/- FramesApart, the walk. -/
import Derived.Test.YtjibphpkebcoeaaH4
set_option linter.all false
namespace Go.Proofs.Ytjibphpkebcoeaa
open Go.RowKit

theorem pgL_far (xs : List UInt8) (i k : Nat) (x : UInt8) (h : i < k * 16 ∨ k * 16 + 16 ≤ i) : pgL (xs.set i x) k = pgL xs k := by
  apply List.ext_getElem?
  intro j
  simp only [pgL, List.getElem?_take, List.getElem?_drop]
  split
  · rw [List.getElem?_set_ne (by omega)]
  · rfl
theorem pgL_fars (k : Nat) : ∀ (ys xs : List UInt8) (o : Nat), (o + ys.length ≤ k * 16 ∨ k * 16 + 16 ≤ o) → pgL (setL xs o ys) k = pgL xs k := by
  intro ys
  induction ys with
  | nil => intro xs o h; rfl
  | cons y r ih =>
    intro xs o h
    simp only [List.length_cons] at h
    rw [setL, ih _ _ (by omega), pgL_far _ _ _ _ (by omega)]
theorem step_far (n : Nat) (xs : List UInt8) (t : FSt) (k : Nat) (hl : xs.length = 16 * n) (h : (if t.what = 2 then t.b else t.a) ≠ (k : Int)) : pgL (stepF n xs t) k = pgL xs k := by
  have hld : ∀ s, t.a ≠ (k : Int) → pgL (ldX n xs t.a s) k = pgL xs k := by
    intro s ha
    unfold ldX
    split
    · rfl
    · split
      · rfl
      · obtain ⟨j, e, hj⟩ := fw_no (n := n) (f := t.a) (by simpa using ‹¬ fw n t.a = true›)
        rw [e] at ha ⊢
        rw [pgL_fars _ _ _ _ (by rw [padL_len, Int.toNat_natCast]; omega)]
  unfold stepF
  split
  · rename_i h0
    rw [if_neg (by omega)] at h
    unfold stX
    split
    · rfl
    · split
      · rfl
      · rename_i h2
        obtain ⟨j, e, hj⟩ := fw_no (n := n) (f := t.a) (by simpa using ‹¬ fw n t.a = true›)
        rw [e] at h ⊢
        rw [pgL_far _ _ _ _ (by rw [Int.toNat_natCast]; omega)]
  · split
    · rename_i h0 h1
      rw [if_pos h1] at h
      unfold cpX
      rcases fwE_or n [t.a, t.b] with he | ⟨he, hall⟩
      · rw [if_pos he]
      · rw [if_neg (by omega)]
        obtain ⟨i, e1, hi⟩ := fw_no (hall t.a (by simp))
        obtain ⟨j, e2, hj⟩ := fw_no (hall t.b (by simp))
        rw [e2] at h ⊢
        rw [e1]
        rw [pgL_fars _ _ _ _ (by rw [Int.toNat_natCast, Int.toNat_natCast, pgL_len hl hi]; omega)]
    · rename_i h0 h1
      rw [if_neg h1] at h
      split
      · exact hld _ h
      · split
        · exact hld _ h
        · rfl
theorem page_far (n : Nat) (xs : List UInt8) (t : FSt) (f : Int) (hl : xs.length = 16 * n) (hf : fw n f = false) (h : (if t.what = 2 then t.b else t.a) ≠ f) : pgS n (stepF n xs t) f = pgS n xs f := by
  obtain ⟨k, rfl, hk⟩ := fw_no hf
  simp [pgS, hf, step_far n xs t k hl h]

set_option maxHeartbeats 6400000 in
set_option maxRecDepth 100000 in
theorem framesApart_any (l : Nat → FSt) (v : Value) (N : Nat) (at_ : Int) (w : World) (hin : Inp w w.heap.size v N 6 (fsc l)) :
    Calls Try.prog 6 #[v, .int .i64 at_] w fun e w' => e = .returned (.bool true) ∧ Below w.heap.size w w' := by
  go_enter Try.func6, Try.ntmps6
  go_wp2_with fail
  refine (fnew_ok w w.heap.size 8 (Nat.le_refl _) (by omega) (by omega)).mono ?_
  rintro e w1 ⟨m, rfl, h1, b1⟩
  go_wp2_with fail
  refine (flong_any l v N w1 ((hin.below b1).mono b1.size)).mono ?_
  rintro e w2 ⟨rfl | rfl, m2⟩
  · have b2 := b1.trans (m2.mono b1.size)
    clear m2 b1 h1 hin
    go_wp2_with fail
    refine (seven_any _).mono ?_
    rintro e w9 ⟨rfl, b9⟩
    have t9 := b2.trans (b9.mono b2.size)
    clear b9 b2
    go_wp2
    go_ret
    exact ⟨rfl, t9⟩
  have b2 := b1.trans (m2.mono b1.size)
  have h2 := h1.quiet m2
  clear m2 b1 h1
  by_cases ha : at_ < 0 ∨ 7 < at_
  · clear h2 hin
    rcases ha with ha | ha
    · have d0 : decide (at_ < 0) = true := by simpa using ha
      clear ha
      go_wp2_with fail
      refine (seven_any _).mono ?_
      rintro e w9 ⟨rfl, b9⟩
      have t9 := b2.trans (b9.mono b2.size)
      clear b9 b2
      go_wp2
      go_ret
      exact ⟨rfl, t9⟩
    · have d0 : decide (at_ < 0) = false := by simp; omega
      have d1 : decide (7 < at_) = true := by simpa using ha
      clear ha
      go_wp2_with fail
      refine (seven_any _).mono ?_
      rintro e w9 ⟨rfl, b9⟩
      have t9 := b2.trans (b9.mono b2.size)
      clear b9 b2
      go_wp2
      go_ret
      exact ⟨rfl, t9⟩
  have d0 : decide (at_ < 0) = false := by simp; omega
  have d1 : decide (7 < at_) = false := by simp; omega
  have hf : fw 8 at_ = false := by simp [fw]; omega
  have hpe : pgE 8 at_ = 0 := by simp [pgE, hf]
  have HF := Lib.hid hf
  have HPE := Lib.hid hpe
  clear ha hf hpe
  go_wp2_with fail
  refine (rnew w2 w.heap.size 8 b2.size ⟨by omega, by omega⟩).mono ?_
  rintro e w3 ⟨rb, rfl, r3, m3⟩
  have b3 := b2.trans (m3.mono b2.size)
  have h3 := h2.quiet m3
  clear m3 b2 h2
  obtain ⟨hnm, a, cap, rfl, hc⟩ := hin
  unfold maxLen at hnm
  go_wp2_with fail
  go_loopw [49] (fun i wr => ∃ (k : Nat) (xs : List UInt8), k ≤ N ∧ i = .int .i64 k ∧ FR wr w.heap.size m 8 xs ∧ RM wr w.heap.size rb 8 xs ∧ Below w.heap.size w wr) (fun i _ => N - (intOf i).toNat)
  case atStart => exact ⟨0, _, by omega, rfl, h3, r3, b3⟩
  case round =>
    obtain ⟨k, xs, hk, rfl, hp, hr, hbel⟩ := hrel
    have hsz := hbel.size
    clear h3 r3 b3
    by_cases hlt : k < N
    · obtain ⟨b, off, rfl, hb, hcl⟩ := hc (by omega)
      have c0 : wr.cell? _ = some (.int .i64 (l k).what) := (hbel.cell (p := ⟨b, _, none⟩) hb).trans (hcl k hlt 0 (by omega))
      have c1 : wr.cell? _ = some (.int .i64 (l k).a) := (hbel.cell (p := ⟨b, _, none⟩) hb).trans (hcl k hlt 1 (by omega))
      have c2 : wr.cell? _ = some (.int .i64 (l k).b) := (hbel.cell (p := ⟨b, _, none⟩) hb).trans (hcl k hlt 2 (by omega))
      have c3 : wr.cell? _ = some (.int .i64 (l k).at_) := (hbel.cell (p := ⟨b, _, none⟩) hb).trans (hcl k hlt 3 (by omega))
      have c4 : wr.cell? _ = some (.int .u8 ((l k).y.toNat : Int)) := (hbel.cell (p := ⟨b, _, none⟩) hb).trans (hcl k hlt 4 (by omega))
      have c5 : wr.cell? _ = some (.string (l k).s) := (hbel.cell (p := ⟨b, _, none⟩) hb).trans (hcl k hlt 5 (by omega))
      clear hcl hc
      simp only [Nat.add_zero] at c0
      generalize l k = t at *
      obtain ⟨wh, ta, tb, tat, ty, ts⟩ := t
      simp only at c0 c1 c2 c3 c4 c5
      have hfar := page_far 8 xs ⟨wh, ta, tb, tat, ty, ts⟩ at_ hp.len HF.out
      have HFar := Lib.hid hfar
      have ba := alloc_below wr (.cells (fbx ⟨wh, ta, tb, tat, ty, ts⟩) 46)
      have hp3 := hp.quiet ba
      have hr3 := hr.quiet ba
      have hb3 := hbel.trans (ba.mono hsz)
      have hN : Blk (wr.alloc (.cells (fbx ⟨wh, ta, tb, tat, ty, ts⟩) 46)) wr.heap.size 46 (fbx ⟨wh, ta, tb, tat, ty, ts⟩) := Blk.new _ _ _
      obtain ⟨cs, hcs⟩ : ∃ cs, fbx ⟨wh, ta, tb, tat, ty, ts⟩ = cs := ⟨_, rfl⟩
      have HCS := Lib.hid hcs
      unfold fbx at hN hb3 hp3 hr3
      have HN := Lib.hid hN
      clear hp hr hbel ba hN hcs hfar
      go_wp2_with fail
      refine (page_fr _ _ _ 8 xs at_ hp3).mono ?_
      rintro e w4 ⟨rfl, m4⟩
      have hp4 := hp3.quiet m4
      have hr4 := hr3.quiet m4
      have hN4 := HN.out.mod (Mod.of_below m4) (fun h => h)
      have b4 := hb3.trans (m4.mono hb3.size)
      have q0 : w4.cell? ⟨wr.heap.size, 0, none⟩ = some (.int .i64 wh) := hN4.cell 0
      have q1 : w4.cell? ⟨wr.heap.size, 1, none⟩ = some (.int .i64 ta) := hN4.cell 1
      have q2 : w4.cell? ⟨wr.heap.size, 2, none⟩ = some (.int .i64 tb) := hN4.cell 2
      have q3 : w4.cell? ⟨wr.heap.size, 3, none⟩ = some (.int .i64 tat) := hN4.cell 3
      have q4 : w4.cell? ⟨wr.heap.size, 4, none⟩ = some (.int .u8 (ty.toNat : Int)) := hN4.cell 4
      have q5 : w4.cell? ⟨wr.heap.size, 5, none⟩ = some (.string ts) := hN4.cell 5
      rw [HPE.out]
      have hD := fdoes_any w4 _ _ _ 8 xs ⟨wh, ta, tb, tat, ty, ts⟩ hp4 hr4 b4.size
      unfold fbx at hD
      have HD := Lib.hid hD
      have HN4 := Lib.hid hN4
      clear hp3 hr3 hb3 m4 HN hD hN4 hp4 hr4
      go_wp2_with fail
      refine HD.out.mono ?_
      rintro e w5 ⟨rfl, hp5, hr5, b5⟩
      have hN5 := b5.keep _ _ HN4.out
      have b6 := b4.trans b5.bel
      have p0 : w5.cell? ⟨wr.heap.size, 0, none⟩ = some (.int .i64 wh) := hN5.cell 0
      have p1 : w5.cell? ⟨wr.heap.size, 1, none⟩ = some (.int .i64 ta) := hN5.cell 1
      have p2 : w5.cell? ⟨wr.heap.size, 2, none⟩ = some (.int .i64 tb) := hN5.cell 2
      clear b4 b5 HD HN4 q0 q1 q2 q3 q4 q5
      go_wp2_with fail
      refine (page_fr w5 _ _ 8 _ at_ hp5).mono ?_
      rintro e w6 ⟨rfl, m6⟩
      have hp6 := hp5.quiet m6
      have hr6 := hr5.quiet m6
      have hN6 := hN5.mod (Mod.of_below m6) (fun h => h)
      have t6 := b6.trans (m6.mono b6.size)
      have p0' : w6.cell? ⟨wr.heap.size, 0, none⟩ = some (.int .i64 wh) := hN6.cell 0
      have p1' : w6.cell? ⟨wr.heap.size, 1, none⟩ = some (.int .i64 ta) := hN6.cell 1
      have p2' : w6.cell? ⟨wr.heap.size, 2, none⟩ = some (.int .i64 tb) := hN6.cell 2
      rw [HPE.out]
      generalize hss : stepF 8 xs ⟨wh, ta, tb, tat, ty, ts⟩ = zs at *
      generalize hs1 : pgS 8 zs at_ = now at *
      generalize hs2 : pgS 8 xs at_ = was at *
      clear hs1 hs2 hp5 hr5 hN5 b6 m6 p0 p1 p2 hss hN6
      by_cases hwh : wh = 2
      · have e0 : (wh == 2) = true := by simpa using hwh
        by_cases hto : tb = at_
        · have e1 : (tb != at_) = false := by simp [hto]
          clear hwh hto
          go_wp2
          go_roundw
          case rel => exact ⟨k + 1, _, by omega, by go_num, hp6, hr6, t6⟩
          case measure => simp [intOf]; omega
        · have e1 : (tb != at_) = true := by simpa using hto
          have e2 : now = was := HFar.out (by simpa [hwh] using hto)
          have e3 : (now.toList == was.toList) = true := by rw [e2]; simp
          clear hwh hto e2
          go_wp2
          go_roundw
          case rel => exact ⟨k + 1, _, by omega, by go_num, hp6, hr6, t6⟩
          case measure => simp [intOf]; omega
      · have e0 : (wh == 2) = false := by simpa using hwh
        by_cases hto : ta = at_
        · have e1 : (ta != at_) = false := by simp [hto]
          clear hwh hto
          go_wp2
          go_roundw
          case rel => exact ⟨k + 1, _, by omega, by go_num, hp6, hr6, t6⟩
          case measure => simp [intOf]; omega
        · have e1 : (ta != at_) = true := by simpa using hto
          have e2 : now = was := HFar.out (by simpa [hwh] using hto)
          have e3 : (now.toList == was.toList) = true := by rw [e2]; simp
          clear hwh hto e2
          go_wp2
          go_roundw
          case rel => exact ⟨k + 1, _, by omega, by go_num, hp6, hr6, t6⟩
          case measure => simp [intOf]; omega
    · obtain rfl : k = N := by omega
      clear hc hlt hk hp hr
      go_wp2_with fail
      refine (seven_any _).mono ?_
      rintro e w9 ⟨rfl, b9⟩
      have t9 := hbel.trans (b9.mono hsz)
      clear b9 hbel
      go_wp2
      go_ret
      exact ⟨rfl, t9⟩
end Go.Proofs.Ytjibphpkebcoeaa
