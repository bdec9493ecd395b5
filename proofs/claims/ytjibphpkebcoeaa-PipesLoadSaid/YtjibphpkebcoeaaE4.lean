/- 'PipesLoad' returns true, the walk. -/
import Derived.Test.YtjibphpkebcoeaaE3
set_option linter.all false
namespace Go.Proofs.Ytjibphpkebcoeaa
open Go.RowKit

theorem own_cap {w : World} {base : Nat} {e : TypeId} {size n : Nat} {v : Value} {xs : List Value} (h : w.ownsRow base e size v n xs) : ∀ a c, v = .slice a n c → n ≤ c ∧ c ≤ maxLen := by
  rintro a c rfl
  rcases h.2 with ⟨h1, rfl⟩ | ⟨g, cap, cur, h1, _, _, h2, h3, _⟩
  · cases h1; simp
  · cases h1; exact ⟨h2, h3⟩
set_option maxHeartbeats 6400000 in
set_option maxRecDepth 100000 in
theorem pipesLoad_any (l : Nat → PStep) (v : Value) (n : Nat) (o : List Ent) (v2 : Value) (w : World) (hin : Inp w w.heap.size v n 4 (stepCells l)) (hin2 : Inp w w.heap.size v2 o.length 2 (atl ec o)) :
    Calls Try.prog 11 #[v, v2] w fun e w' => e = .returned (.bool true) ∧ Below w.heap.size w w' := by
  obtain ⟨a2, cap2, hv2⟩ : ∃ a c, v2 = .slice a o.length c := by obtain ⟨_, a, c, h, _⟩ := hin2; exact ⟨a, c, h⟩
  subst hv2
  go_enter Try.func11, Try.ntmps11
  go_wp2_with fail
  refine (new_pr w w.heap.size (Nat.le_refl _)).mono ?_
  rintro e w1 ⟨rfl, h1, m1⟩
  have b1 := m1.below (Nat.le_refl _) (fun _ h => h.elim)
  go_wp2_with fail
  refine (long_any l v n w1 ((hin.below b1).mono m1.size)).mono ?_
  rintro e w2 ⟨rfl | ⟨rfl, hn, hs⟩, m2⟩
  · go_wp2_with fail
    refine (abc_any w2).mono ?_
    rintro e w3 ⟨rfl, m3⟩
    have b3 := (b1.trans (m2.mono m1.size)).trans (m3.mono (by have := m1.size; have := m2.size; omega))
    clear m1 m2 m3 b1 h1 hin hin2
    go_wp2
    go_ret
    exact ⟨rfl, b3⟩
  · have b2 := b1.trans (m2.mono m1.size)
    have h2 := h1.mod (Mod.of_below m2) (fun _ _ h => h)
    have HS := Lib.hid hs
    by_cases ho : 20 < o.length
    · have hod : decide (20 < (o.length : Int)) = true := by simp; omega
      clear hs m1 m2 b1 h1 h2 hin hin2
      go_wp2_with fail
      refine (abc_any w2).mono ?_
      rintro e w3 ⟨rfl, m3⟩
      have b3 := b2.trans (m3.mono b2.size)
      clear m3 b2
      go_wp2
      go_ret
      exact ⟨rfl, b3⟩
    have hod : decide (20 < (o.length : Int)) = false := by simp; omega
    have hol : o.length ≤ 20 := by omega
    have hr2 := rr_new w2 w.heap.size b2.size
    have hp2 := h2.quiet ((Below.refl _ _).alloc (Nat.le_refl _) (.cells #[.slice none 0 0] 63))
    have b3 := b2.alloc b2.size (.cells #[.slice none 0 0] 63)
    clear hs m1 m2 b1 h1 h2 ho
    obtain ⟨hnm, a, cap, rfl, hc⟩ := hin
    unfold maxLen at hnm
    have HIN2 := Lib.hid hin2
    clear hin2
    go_wp2_with fail
    go_loopw [37] (fun i wr => ∃ (k : Nat) (s : PS), k ≤ n ∧ i = .int .i64 k ∧ PR wr w.heap.size w.heap.size s ∧ RR wr w.heap.size w2.heap.size (ents s) ∧ Below w.heap.size w wr) (fun i _ => n - (intOf i).toNat)
    case atStart => exact ⟨0, _, by omega, rfl, hp2, hr2, b3⟩
    case round =>
      obtain ⟨k, s, hk, rfl, hp, hr, hbel⟩ := hrel
      have hsz := hbel.size
      clear hp2 hr2 b3
      by_cases hlt : k < n
      · obtain ⟨b, off, rfl, hb, hcl⟩ := hc (by omega)
        have c0 := (hbel.cell (p := ⟨b, _, none⟩) hb).trans (hcl k hlt 0 (by omega))
        have c1 := (hbel.cell (p := ⟨b, _, none⟩) hb).trans (hcl k hlt 1 (by omega))
        have c2 := (hbel.cell (p := ⟨b, _, none⟩) hb).trans (hcl k hlt 2 (by omega))
        have c3 := (hbel.cell (p := ⟨b, _, none⟩) hb).trans (hcl k hlt 3 (by omega))
        clear hcl hc
        simp only [stepCells, Nat.add_zero] at c0 c1 c2 c3
        have hss := HS.out k hlt
        clear HS
        generalize (l k).what = wh at *
        generalize (l k).id = sid at *
        generalize (l k).n = nn at *
        generalize (l k).s = ss at *
        have ba := (Below.refl wr.heap.size wr).alloc (Nat.le_refl _) (.cells #[.int .i64 wh, .int .i64 sid, .int .i64 nn, .string ss] 31)
        have hp3 := hp.quiet ba
        have hr3 := hr.quiet ba
        have hb3 := hbel.trans (ba.mono hsz)
        clear hp hr hbel ba
        go_wp2_with fail
        refine (does_any _ _ _ _ s wh sid nn ss hp3 hr3 hb3.size (by omega)).mono ?_
        rintro e w5 ⟨rfl, N, hp5, hr5, b5⟩
        have b6 := hb3.trans b5.bel
        clear hb3 b5 hp3 hr3
        go_wp2
        go_roundw
        case rel => exact ⟨k + 1, _, by omega, by go_num, hp5, hr5, b6⟩
        case measure => simp [intOf]; omega
      · obtain rfl : k = n := by omega
        clear hc HS hlt hk
        go_wp2_with fail
        refine (list_pr _ _ _ _ hp).mono ?_
        rintro e w4 ⟨v4, rfl, hv4, b4⟩
        have hez := ents_sz hp
        rw [infos_ents, cnts_ents] at hv4
        have h3 := ents_len s
        have hin4 := own_inp ec_len hv4 rfl (by unfold maxLen; omega)
        have hr4 := hr.quiet b4
        have hb4 := hbel.trans (b4.mono hsz)
        clear hp hr hbel b4
        go_wp2_with fail
        refine (load_any (ents s) v4 w4 hin4 (by omega)).mono ?_
        rintro e w5 ⟨b5, ⟨t, rfl, hp5, hcn, hlk, _⟩ | ⟨_, hbad⟩⟩
        rotate_left
        · exact absurd (ents_right s hez) hbad
        have het : ents t = ents s := ents_congr fun i hi => by rw [hlk i hi, look_ents s i hi]
        rw [← het] at hr4
        have hr5 := hr4.quiet b5
        have hb5 := hb4.trans (b5.mono hb4.size)
        clear hcn hlk hin4 hv4 het hr4 hb4 hez
        obtain ⟨hl1, hl2, hl3, v5, hbk5, ho5⟩ := id hr5
        have k5 := hbk5.cell 0
        simp at k5
        have hlt5 := hbk5.lt
        have HB5 := Lib.hid hb5
        have hp5' := hp5.quiet (Below.refl _ w5).drew
        have hr5' := hr5.quiet (Below.refl _ w5).drew
        have hbk5' : Blk w5.drew w2.heap.size 63 #[v5] := hbk5
        clear hp5 hb5 hl3 hr5 hbk5
        go_wp2_with fail
        go_region_held3 (fun w' => w'.cell? ⟨w2.heap.size, 0, none⟩ = some v5)
          (first | exact k5 | exact k6 | exact k7)
          (first
            | (go_at_call 34; refine (list_pr _ _ _ _ hp5').mono ?_; rintro e w6 ⟨v6, rfl, hv6, b6⟩; have k6 := (b6.cell (p := ⟨w2.heap.size, 0, none⟩) hlt5).trans k5)
            | (go_at_call 33; refine (same_both hr5' hbk5' hv6 b6).mono ?_; rintro e w7 ⟨rfl, b7⟩; have k7 := (b7.cell (p := ⟨w2.heap.size, 0, none⟩) (Nat.lt_of_lt_of_le hlt5 b6.size)).trans k6))
        all_goals
          have hb7 := HB5.out.trans ((((Below.refl _ w5).drew.trans b6).trans (b7.mono b6.size)).mono HB5.out.size)
          clear k7 k6 k5 hv6 b6 b7 hp5' hr5' hbk5' ho5
          have hin7 := HIN2.out.below hb7
          obtain ⟨i0, hi, hz0, hz1, hz2⟩ := info_parts Try.info75
          obtain ⟨_, a2', cap2', hv2', hc2⟩ := hin7
          cases hv2'
          have HIN7 := Lib.hid (HIN2.out.below hb7)
          clear HIN2
          go_wp2_with fail
          go_loopw [11, 70] (fun v i wr => ∃ (j : Nat), j ≤ o.length ∧ i = .int .i64 j ∧ wr.ownsRow w7.heap.size 75 2 v j ((o.take j).flatMap ec) ∧ Below w7.heap.size w7 wr) (fun _ i _ => o.length - (intOf i).toNat)
          case atStart => exact ⟨0, by omega, rfl, World.ownsRow_nil _ _ _ _, Below.refl _ _⟩
          case round =>
            obtain ⟨j, hj, rfl, hown, hbel⟩ := hrel
            have hsz := hbel.size
            have hsz7 := hb7.size
            by_cases hlt : j < o.length
            · obtain ⟨b, off, rfl, hb, hcl⟩ := hc2 (by omega)
              have hx : o[j]? = some (o[j]'hlt) := List.getElem?_eq_getElem hlt
              generalize o[j]'hlt = x at hx
              have c0 := (hbel.cell (p := ⟨b, _, none⟩) (Nat.lt_of_lt_of_le hb hsz7)).trans (hcl j hlt 0 (by omega))
              have c1 := (hbel.cell (p := ⟨b, _, none⟩) (Nat.lt_of_lt_of_le hb hsz7)).trans (hcl j hlt 1 (by omega))
              rw [atl_get hx (v := .int .i64 x.1) rfl] at c0
              rw [atl_get hx (v := .string x.2) rfl] at c1
              simp only [Nat.add_zero] at c0
              clear hcl hc2
              have hbw : b < wr.heap.size := by omega
              by_cases hz : 100 < x.2.size
              · have hzd : decide (100 < (x.2.size : Int)) = true := by simp; omega
                have hb8 := (hb7.trans (hbel.mono hsz7)).alloc (by omega) (.cells #[.int .i64 x.1, .string x.2] 74)
                clear hz hx hbel hown
                go_wp2_with fail
                refine (abc_any _).mono ?_
                rintro e w9 ⟨rfl, b9⟩
                have hb9 := hb8.trans (b9.mono hb8.size)
                clear b9 hb8
                go_wp2
                go_ret
                exact ⟨rfl, hb9⟩
              · have hzd : decide (100 < (x.2.size : Int)) = false := by simp; omega
                have hn : (o.take (j + 1)).flatMap ec = (o.take j).flatMap ec ++ ec x := by rw [take_snoc_list hx]; simp
                have HN := Lib.hid hn
                clear hz hx hn
                go_wp2_with (at_builtin; refine wpList_append_own _ rfl _ _ 61 rfl w7.heap.size 75 i0 _ 2 24 Try.underlying61 hi hz0 hz1 hz2 rfl (by decide) _ _ _ rfl ((hown.alloc _).alloc _) ⟨wr.heap.size + 1, 0, none⟩ 1 1 (ec x) rfl rfl ?c1 ?c2 ?c3 ?c4 ?c5 ?_)
                case c1 => exact news_new2 _ _ _ _
                case c2 => intro u hu; simp [ec] at hu; rcases hu with rfl | rfl <;> rfl
                case c3 => unfold maxLen; omega
                case c4 => omega
                case c5 => simp; omega
                intro v' w8 hown1 hgrow _
                have hbel1 : Below w7.heap.size w7 w8 := ((hbel.alloc hsz _).alloc (by simp; omega) _).grown hgrow (by simp; omega) (fun g hg => (hown.lt g hg).1)
                clear hown hgrow hbel
                go_wp2
                go_roundw
                case rel => exact ⟨j + 1, by omega, by go_num, by rw [HN.out]; exact hown1, hbel1⟩
                case measure => simp [intOf]; omega
            · obtain rfl : j = o.length := by omega
              rw [List.take_length] at hown
              have hin8 := HIN7.out.below (hbel.mono hsz7)
              have hb8 := hb7.trans (hbel.mono hsz7)
              clear hbel hc2 HIN7
              go_wp2_with fail
              refine (load_any o _ wr (hin8.mono hb8.size) (by omega)).mono ?_
              rintro e w9 ⟨b9, hcase⟩
              have hown9 := ownsRow_mod hown (Mod.of_below b9) (fun _ _ _ _ h => h)
              have hb9 := hb8.trans (b9.mono hb8.size)
              have hinR := own_inp ec_len hown9 rfl (by unfold maxLen; omega)
              obtain ⟨ax, cx, rfl⟩ := len_of_own hown9
              have hcp := own_cap hown9
              clear hown hown9 hb8 b9 hin8
              rcases hcase with ⟨t, rfl, hp9, hcn, _, hright⟩ | ⟨rfl, hnot⟩
              · go_wp2_with fail
                refine (right_any o _ w9 hinR (by omega) hcp).mono ?_
                rintro e w10 ⟨⟨_, rfl⟩ | ⟨hbad, _⟩, b10⟩
                rotate_left
                · exact absurd hright hbad
                have hp10 := hp9.quiet b10
                have hb10 := hb9.trans (b10.mono hb9.size)
                clear hp9 b10 hb9 hinR hcp hright
                go_wp2_with fail
                refine (list_pr _ _ _ _ hp10).mono ?_
                rintro e w11 ⟨v11, rfl, hv11, b11⟩
                rw [hcn] at hv11
                obtain ⟨al, cl, rfl⟩ := len_of_own hv11
                have hb11 := hb10.trans (b11.mono hb10.size)
                clear hv11 b11 hp10 hb10 hcn
                go_wp2_with fail
                refine (abc_any _).mono ?_
                rintro e w12 ⟨rfl, b12⟩
                have hb12 := hb11.trans (b12.mono hb11.size)
                clear b12 hb11
                go_wp2
                go_ret
                exact ⟨rfl, hb12⟩
              · go_wp2_with fail
                refine (right_any o _ w9 hinR (by omega) hcp).mono ?_
                rintro e w10 ⟨⟨hbad, _⟩ | ⟨_, rfl⟩, b10⟩
                · exact absurd hbad hnot
                have hb10 := hb9.trans (b10.mono hb9.size)
                clear b10 hb9 hinR hcp hnot
                go_wp2_with fail
                refine (abc_any _).mono ?_
                rintro e w12 ⟨rfl, b12⟩
                have hb12 := hb10.trans (b12.mono hb10.size)
                clear b12 hb10
                go_wp2
                go_ret
                exact ⟨rfl, hb12⟩
end Go.Proofs.Ytjibphpkebcoeaa
