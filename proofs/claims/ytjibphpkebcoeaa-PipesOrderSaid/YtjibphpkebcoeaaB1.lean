/- 'PipesOrder' returns true. -/
import Derived.Test.YtjibphpkebcoeaaA7
set_option linter.all false
namespace Go.Proofs.Ytjibphpkebcoeaa
open Go.RowKit

theorem wr_keep {s : PS} {c : Nat} {d x : ByteArray} (h : s 0 = some (c, d)) :
    (wrE s 0 x = 0 ∧ wrS s 0 x 0 = some (c, d ++ x)) ∨ (wrE s 0 x = 5 ∧ wrS s 0 x 0 = some (c, d)) := by
  by_cases hf : 16 < x.size + d.size
  · exact .inr (by simp [wrE, wrS, h, hf])
  · exact .inl (by simp [wrE, wrS, h, hf, up])
theorem ext_join (d : ByteArray) (k : Nat) (hk : k ≤ d.size) : d.extract 0 k ++ d.extract k d.size = d := by
  apply ByteArray.ext
  simp
theorem rd_keep {s : PS} {c : Nat} {d : ByteArray} (n : Int) (h : s 0 = some (c, d)) :
    ∃ d', rdS s 0 n 0 = some (c, d') ∧ rdV s 0 n ++ d' = d := by
  by_cases hn : n < 0
  · exact ⟨d, by simp [rdS, hn, h], by simp [rdV, hn]⟩
  by_cases hf : (d.size : Int) < n
  · exact ⟨ByteArray.empty, by simp [rdS, hn, h, hf, up], by simp [rdV, hn, h, hf]⟩
  · refine ⟨d.extract n.toNat d.size, by simp [rdS, hn, h, hf, up], ?_⟩
    have := ext_join d n.toNat (by omega)
    simp [rdV, hn, h, hf]
theorem rd_16 {s : PS} {c : Nat} {d : ByteArray} (h : s 0 = some (c, d)) (hd : d.size ≤ 16) : rdE s 0 16 = 0 ∧ rdV s 0 16 = d := by
  by_cases hf : (d.size : Int) < 16
  · exact ⟨by simp [rdE, h], by simp [rdV, h, hf]⟩
  · refine ⟨by simp [rdE, h], ?_⟩
    have e : d.size = 16 := by omega
    have e2 : d.extract 0 16 = d := by rw [← e]; simp
    simp [rdV, h, hf, e2]

set_option maxHeartbeats 1600000 in
set_option maxRecDepth 100000 in
theorem pipesOrder_any (l : Nat → PStep) (v : Value) (n : Nat) (w : World) (hin : Inp w w.heap.size v n 4 (stepCells l)) :
    Calls Try.prog 3 #[v] w fun e w' => e = .returned (.bool true) ∧ Below w.heap.size w w' := by
  go_enter Try.func3, Try.ntmps3
  go_wp2_with fail
  refine (new_pr w w.heap.size (Nat.le_refl _)).mono ?_
  rintro e w1 ⟨rfl, h1, m1⟩
  have b1 := m1.below (Nat.le_refl _) (fun _ h => h.elim)
  go_wp2_with fail
  refine (long_any l v n w1 ((hin.below b1).mono m1.size)).mono ?_
  rintro e w2 ⟨rfl | ⟨rfl, hn, hs⟩, m2⟩
  · go_wp2_with fail
    refine (abc_any w2).mono ?_
    rintro e w3 ⟨rfl, m3⟩
    have b3 := (b1.trans (m2.mono m1.size)).trans (m3.mono (by have := m1.size; have := m2.size; omega))
    clear m1 m2 m3 b1 h1 hin
    go_wp2
    go_ret
    exact ⟨rfl, b3⟩
  · have b2 := b1.trans (m2.mono m1.size)
    have h2 := h1.mod (Mod.of_below m2) (fun _ _ h => h)
    have HS := Lib.hid hs
    clear hs m1 m2 b1 h1
    go_wp2_with fail
    refine (open_pr w2 _ _ _ h2 b2.size).mono ?_
    rintro e w3 ⟨m3, ⟨_, rfl, h3⟩ | ⟨hbad, _⟩⟩
    rotate_left
    · simp [lowest] at hbad
    have el : lowest (fun _ => none) = 0 := by simp [lowest]
    rw [el] at h3
    simp only [el]
    have b3 := b2.trans (m3.below b2.size h2.own_low)
    obtain ⟨N, hN⟩ : ∃ N, w1.heap.size = N := ⟨_, rfl⟩
    have h0 : (up (fun _ => none) 0 (some (w2.heap.size, ByteArray.empty)) : PS) 0 = some (w2.heap.size, ByteArray.empty) := rfl
    generalize up (fun _ => none) 0 (some (w2.heap.size, ByteArray.empty)) = s0 at h3 h0
    have H0 := Lib.hid h0
    clear h0 m3 h2 b2 el
    obtain ⟨hnm, a, cap, rfl, hc⟩ := hin
    unfold maxLen at hnm
    go_wp2_with fail
    go_loopw [6, 7, 39] (fun x y i wr => ∃ (k : Nat) (s : PS) (c : Nat) (d o : ByteArray), k ≤ n ∧ i = .int .i64 k ∧ x = .string (o ++ d) ∧ y = .string o ∧ (o.size + d.size ≤ 100 * k) ∧ Hid (s 0 = some (c, d)) ∧ PR wr w.heap.size w.heap.size s ∧ Below w.heap.size w wr) (fun _ _ i _ => n - (intOf i).toNat)
    case atStart => exact ⟨0, s0, _, ByteArray.empty, ByteArray.empty, by omega, rfl, rfl, rfl, by simp, H0, h3, b3⟩
    case round =>
      obtain ⟨k, s, c, d, o, hk, rfl, rfl, rfl, hz, hs, hp, hbel⟩ := hrel
      have hz1 : (o ++ d).size = o.size + d.size := ByteArray.size_append
      have hd := (hp.pipe 0 (by omega) c d hs.out).2.1
      have hsz := hbel.size
      by_cases hlt : k < n
      · obtain ⟨b, off, rfl, hb, hcl⟩ := hc (by omega)
        have c0 := (hbel.cell (p := ⟨b, _, none⟩) hb).trans (hcl k hlt 0 (by omega))
        have c1 := (hbel.cell (p := ⟨b, _, none⟩) hb).trans (hcl k hlt 1 (by omega))
        have c2 := (hbel.cell (p := ⟨b, _, none⟩) hb).trans (hcl k hlt 2 (by omega))
        have c3 := (hbel.cell (p := ⟨b, _, none⟩) hb).trans (hcl k hlt 3 (by omega))
        clear hcl hc
        simp only [stepCells, Nat.add_zero] at c0 c1 c2 c3
        have hss := HS.out k hlt
        clear HS
        generalize (l k).what = wh at *
        generalize (l k).n = nn at *
        generalize (l k).s = ss at *
        have hpa := fun o => hp.mod ((Mod.refl Nothing wr).alloc o) (fun _ _ h => h)
        have hba := fun o => hbel.alloc hbel.size o
        have hdn : ∀ x : ByteArray, o ++ d ++ x = o ++ (d ++ x) := fun x => ByteArray.append_assoc
        have HP := Lib.hid hpa
        have HO := Lib.hid hp.own_lt
        have HL := Lib.hid hp.own_low
        have HB := Lib.hid hba
        have HD := Lib.hid hdn
        clear hpa hba hdn hbel hp
        by_cases hw : wh = 3 ∨ wh = 4 ∨ wh = 5
        · rcases wr_keep (x := ss) hs.out with ⟨e1, e2⟩ | ⟨e1, e2⟩
          · have E2 := Lib.hid e2
            clear e2
            rcases hw with rfl | rfl | rfl
            all_goals
              go_wp2_with fail
              refine (write_pr _ _ _ s 0 ss (HP.out _)).mono ?_
              rintro e w4 ⟨rfl, h4, m4⟩
              have q3 := (Blk.mod (Blk.new _ _ _) m4 (fun h => Nat.lt_irrefl _ (HO.out _ h))).cell 3
              have b4 := (HB.out _).trans (m4.below (HB.out _).size HL.out)
              clear m4
              simp only [e1]
              simp at q3
              go_wp2
              go_roundw
              case rel => exact ⟨k + 1, _, c, d ++ ss, o, by omega, by go_num, by rw [HD.out], rfl, by rw [ByteArray.size_append]; omega, E2, h4, b4⟩
              case measure => simp [intOf]; omega
          · have E2 := Lib.hid e2
            clear e2
            rcases hw with rfl | rfl | rfl
            all_goals
              go_wp2_with fail
              refine (write_pr _ _ _ s 0 ss (HP.out _)).mono ?_
              rintro e w4 ⟨rfl, h4, m4⟩
              have q3 := (Blk.mod (Blk.new _ _ _) m4 (fun h => Nat.lt_irrefl _ (HO.out _ h))).cell 3
              have b4 := (HB.out _).trans (m4.below (HB.out _).size HL.out)
              clear m4
              simp only [e1]
              simp at q3
              go_wp2
              go_roundw
              case rel => exact ⟨k + 1, _, c, d, o, by omega, by go_num, rfl, rfl, by omega, E2, h4, b4⟩
              case measure => simp [intOf]; omega
        · by_cases hw2 : wh = 6 ∨ wh = 7
          · obtain ⟨d', e1, e2⟩ := rd_keep nn hs.out
            have hz2 : (rdV s 0 nn).size + d'.size = d.size := by rw [← e2, ByteArray.size_append]
            have hO : o ++ rdV s 0 nn ++ d' = o ++ d := by rw [ByteArray.append_assoc, e2]
            have E1 := Lib.hid e1
            have HW := Lib.hid hO
            clear e1 e2 hO
            rcases hw2 with rfl | rfl
            all_goals
              go_wp2_with fail
              refine (read_pr _ _ _ s 0 nn (HP.out _)).mono ?_
              rintro e w4 ⟨rfl, h4, m4⟩
              have b4 := (HB.out _).trans (m4.below (HB.out _).size HL.out)
              clear m4
              generalize rdV s 0 nn = rv at *
              go_wp2
              go_roundw
              case rel =>
                have hrel' : ∃ (k' : Nat) (s' : PS) (c' : Nat) (d1 o' : ByteArray), k' ≤ n ∧ Value.int .i64 ((k : Int) + 1) = .int .i64 k' ∧ Value.string (o ++ d) = .string (o' ++ d1) ∧ Value.string (o ++ rv) = .string o' ∧ (o'.size + d1.size ≤ 100 * k') ∧ Hid (s' 0 = some (c', d1)) ∧ PR w4 w.heap.size w.heap.size s' ∧ Below w.heap.size w w4 :=
                  ⟨k + 1, _, c, d', o ++ rv, by omega, by go_num, by rw [HW.out], rfl, by rw [ByteArray.size_append]; omega, E1, h4, b4⟩
                first | exact hrel' | ((repeat apply Exists.intro); exact ⟨hrel', rfl⟩)
              case measure => simp [intOf]; omega
          · have hp := HP.out
            have n3 : (wh == 3) = false := by simp; omega
            have n4 : (wh == 4) = false := by simp; omega
            have n5 : (wh == 5) = false := by simp; omega
            have n6 : (wh == 6) = false := by simp; omega
            have n7 : (wh == 7) = false := by simp; omega
            clear hw hw2 hp
            go_wp2
            go_roundw
            case rel => exact ⟨k + 1, s, c, d, o, by omega, by go_num, rfl, rfl, by omega, hs, HP.out _, HB.out _⟩
            case measure => simp [intOf]; omega
      · obtain rfl : k = n := by omega
        clear hc
        go_wp2_with fail
        refine (read_pr wr _ _ _ 0 16 hp).mono ?_
        rintro e w4 ⟨rfl, h4, m4⟩
        obtain ⟨e1, e2⟩ := rd_16 hs.out hd
        simp only [e1, e2]
        go_wp2_with fail
        refine (abc_any w4).mono ?_
        rintro e w5 ⟨rfl, m5⟩
        have b4 := hbel.trans (m4.below hbel.size hp.own_low)
        have b5 := b4.trans (m5.mono b4.size)
        clear b4 m5 m4 h4 hp hs e1 e2 hbel HS
        go_wp2
        go_ret
        exact ⟨rfl, b5⟩
end Go.Proofs.Ytjibphpkebcoeaa
