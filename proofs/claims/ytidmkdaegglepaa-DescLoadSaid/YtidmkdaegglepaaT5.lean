/- DescLoad, the walk. -/
import Derived.Test.YtidmkdaegglepaaP2
set_option linter.all false
namespace Go.Proofs.Ytidmkdaegglepaa
open Go.RowKit

theorem load_len : ∀ (l acc r : List DE), l.foldl ldS (some acc) = some r → r.length = acc.length + l.length := by
  intro l
  induction l with
  | nil => intro acc r e; cases e; simp
  | cons x t ih =>
    intro acc r e
    rw [List.foldl_cons] at e
    have hins : ∀ a : List DE, (insL a x).length = a.length + 1 := by
      intro a
      induction a with
      | nil => rfl
      | cons y r ih =>
        unfold insL
        split
        · simp
        · simp [ih]
    by_cases h : (rg x && !(atB acc x.pid x.slot)) = true
    · have e1 : ldS (some acc) x = some (insL acc x) := by unfold ldS; simp only; rw [if_pos h]
      rw [e1] at e
      rw [ih _ _ e, hins, List.length_cons]
      omega
    · have e1 : ldS (some acc) x = none := by unfold ldS; simp only; rw [if_neg h]
      rw [e1, ld_none] at e
      cases e
set_option maxHeartbeats 12800000 in
set_option maxRecDepth 100000 in
theorem descLoad_any (v v2 : Value) (l : List ST) (lo : List DE) (w : World) (hin : Inp w w.heap.size v l.length 6 (atl sc l)) (hin2 : Inp w w.heap.size v2 lo.length 5 (atl dc lo)) :
    Calls Try.prog 8 #[v, v2] w fun e w' => e = .returned (.bool true) ∧ Below w.heap.size w w' := by
  have hin2' := hin2
  obtain ⟨_, a, cap, rfl, hc⟩ := hin
  obtain ⟨_, a2, cap2, rfl, hc2⟩ := hin2
  have HI := Lib.hid hin2'
  clear hin2'
  go_enter Try.func8, Try.ntmps8
  go_wp2_with fail
  refine (dnew w w.heap.size (Nat.le_refl _)).mono ?_
  rintro e w1 ⟨b, rfl, hd1, b1⟩
  by_cases hlen : 60 < l.length
  · have d0 : decide (60 < l.length) = true := by simpa using hlen
    clear hc hc2 hd1
    go_wp2_with fail
    refine (five_any _).mono ?_
    rintro e w2 ⟨rfl, b2⟩
    have b3 := b1.trans (b2.mono b1.size)
    clear b2 b1
    go_wp2
    go_ret
    exact ⟨rfl, b3⟩
  have d0 : decide (60 < l.length) = false := by simp; omega
  by_cases hlen2 : 60 < lo.length
  · have d1 : decide (60 < lo.length) = true := by simpa using hlen2
    clear hc hc2 hd1
    go_wp2_with fail
    refine (five_any _).mono ?_
    rintro e w2 ⟨rfl, b2⟩
    have b3 := b1.trans (b2.mono b1.size)
    clear b2 b1
    go_wp2
    go_ret
    exact ⟨rfl, b3⟩
  have d1 : decide (60 < lo.length) = false := by simp; omega
  have hp1 := pt_new w1 w.heap.size b hd1 b1.size
  have b2 := b1.alloc b1.size (.cells #[.slice none 0 0] 35)
  clear hd1 b1
  go_wp2_with fail
  go_loopw [39] (fun i wr => ∃ (k : Nat) (L : List DE), k ≤ l.length ∧ i = .int .i64 k ∧ PT wr w.heap.size b w1.heap.size L ∧ Below w.heap.size w wr) (fun i _ => l.length - (intOf i).toNat)
  case atStart => exact ⟨0, [], by omega, rfl, hp1, b2⟩
  case round =>
    obtain ⟨k, L, hk, rfl, hp, hbel⟩ := hrel
    clear hp1 b2
    have hsz := hbel.size
    by_cases hlt : k < l.length
    · obtain ⟨b', off, rfl, hb', hcc⟩ := hc (by omega)
      have hx : l[k]? = some (l[k]'hlt) := List.getElem?_eq_getElem hlt
      generalize l[k]'hlt = st at hx
      have c0 := (hbel.cell (p := ⟨b', _, none⟩) hb').trans (hcc k hlt 0 (by omega))
      have c1 := (hbel.cell (p := ⟨b', _, none⟩) hb').trans (hcc k hlt 1 (by omega))
      have c2 := (hbel.cell (p := ⟨b', _, none⟩) hb').trans (hcc k hlt 2 (by omega))
      have c3 := (hbel.cell (p := ⟨b', _, none⟩) hb').trans (hcc k hlt 3 (by omega))
      have c4 := (hbel.cell (p := ⟨b', _, none⟩) hb').trans (hcc k hlt 4 (by omega))
      have c5 := (hbel.cell (p := ⟨b', _, none⟩) hb').trans (hcc k hlt 5 (by omega))
      rw [atl_get hx (v := .int .i64 st.what) rfl] at c0
      rw [atl_get hx (v := .int .i64 st.pid) rfl] at c1
      rw [atl_get hx (v := .int .i64 st.slot) rfl] at c2
      rw [atl_get hx (v := .int .i64 st.kind) rfl] at c3
      rw [atl_get hx (v := .int .i64 st.obj) rfl] at c4
      rw [atl_get hx (v := .int .i64 st.n) rfl] at c5
      simp only [Nat.add_zero] at c0
      have hD := fun u hu hBu => does_any u w.heap.size b w1.heap.size L st hu hBu
      have ba := (alloc_below wr (.cells (sa st) 37))
      have hp0 := hp.quiet ba
      have hb0 := hbel.trans (ba.mono hsz)
      generalize stepL L st = L' at *
      have HD := Lib.hid hD
      clear hcc hc hx hD hp hbel ba
      obtain ⟨x1, x2, x3, x4, x5, x6⟩ := st
      unfold sa at *
      simp only at *
      go_wp2_with fail
      refine (HD.out _ hp0 hb0.size).mono ?_
      rintro e w3 ⟨rfl, hp3, m3⟩
      have hb3 := hb0.trans (m3.below (B := w.heap.size) hb0.size (SF.low hp0.d hp0.r))
      clear HD hp0 hb0 m3 c0 c1 c2 c3 c4 c5
      go_wp2
      go_roundw
      case rel => exact ⟨k + 1, L', by omega, by go_num, hp3, hb3⟩
      case measure => simp [intOf]; omega
    · obtain rfl : k = l.length := by omega
      clear hc
      have hgood := hp.good
      have hlen9 := hgood.len
      have hq := list_any wr _ L (.inr ⟨_, _, rfl, hp.d⟩)
      rw [all_eq hgood] at hq
      go_wp2_with fail
      refine hq.mono ?_
      rintro e w2 ⟨v2, rfl, ho2, b2⟩
      have hp2 := hp.quiet b2
      have hb2 := hbel.trans (b2.mono hbel.size)
      have hi2 := own_inp dc_len ho2 rfl (by unfold maxLen; omega)
      obtain ⟨a2', c2', rfl⟩ := len_of_own ho2
      have hld := load_any w2 _ L hi2 (by omega)
      rw [load_same hgood] at hld
      clear hq ho2 b2 hp hbel hi2
      go_wp2_with fail
      refine hld.mono ?_
      rintro e w3 ⟨⟨bu, rfl, hdu⟩, b3⟩
      have hr3 := (hp2.quiet b3).r
      have hb3 := (hb2.trans (b3.mono hb2.size)).drew
      obtain ⟨_, v9, hb9, ho9⟩ := hr3.quiet (Below.refl _ w3).drew
      obtain ⟨a9, c9, rfl⟩ := len_of_own ho9
      have k9 := hb9.cell 0
      simp at k9
      have hq := list_any w3.drew _ L (.inr ⟨_, _, rfl, hdu.quiet (Below.refl _ w3).drew⟩)
      rw [all_eq hgood] at hq
      have HQ := Lib.hid hq
      have HO := Lib.hid (And.intro hb9 (And.intro ho9 hb3))
      clear hq hld hp2 hb2 b3 hr3 hb3 hb9 ho9 hdu
      go_wp2_with fail
      go_region_held3 (fun w' => w'.cell? ⟨w1.heap.size, 0, none⟩ = some (.slice a9 L.length c9))
        (first | exact k9 | exact g1 | exact g2)
        (first
          | (go_at_call 21; refine HQ.out.mono ?_; rintro e w4 ⟨v3, rfl, ho3, b4⟩; obtain ⟨a3, c3, rfl⟩ := len_of_own ho3; have g1 := (b4.cell (p := ⟨w1.heap.size, 0, none⟩) HO.out.1.lt).trans k9; have u3 := HO.out.1.mod (Mod.of_below b4) (fun h => h); have i3 := own_inp dc_len ho3 rfl (by unfold maxLen; omega); have i9 := own_inp dc_len (ownsRow_mod HO.out.2.1 (Mod.of_below b4) (fun _ _ _ _ h => h)) rfl (by unfold maxLen; omega); have t3 := HO.out.2.2.trans (b4.mono HO.out.2.2.size); clear ho3 b4)
          | (go_at_call 20; refine (same_any _ _ _ L i3 i9 (by omega)).mono ?_; rintro e w5 ⟨rfl, b5⟩; have g2 := (b5.cell (p := ⟨w1.heap.size, 0, none⟩) u3.lt).trans g1; have t4 := t3.trans (b5.mono t3.size); clear b5))
      all_goals
        clear i3 i9 u3 t3 g1 g2 k9 HO HQ hgood hlen9
        have hx0 : RT (w5.alloc (.cells #[.slice none 0 0] 35)) w.heap.size w5.heap.size [] := ⟨t4.size, _, Blk.new w5 35 _, World.ownsRow_nil _ _ _ _⟩
        have t5 := t4.alloc t4.size (.cells #[.slice none 0 0] 35)
        clear t4
        go_wp2_with fail
        go_loopw [74, 11] (fun i r wq => ∃ (k : Nat) (lx : List DE), k ≤ lo.length ∧ i = .int .i64 k ∧ r = .bool (loadL (lo.take k)).isSome ∧ lx.length ≤ k ∧ Hid (∀ L, loadL (lo.take k) = some L → lx = L) ∧ RT wq w.heap.size w5.heap.size lx ∧ Below w.heap.size w wq) (fun i _ _ => lo.length - (intOf i).toNat)
        case atStart => exact ⟨0, [], by omega, rfl, rfl, by simp, fun L hL => by cases hL; rfl, hx0, t5⟩
        case round =>
          obtain ⟨k, lx, hk, rfl, rfl, hlx, hLX, hr, hbel⟩ := hrel
          clear hx0 t5
          have hsz := hbel.size
          by_cases hlt : k < lo.length
          · obtain ⟨b', off, rfl, hb', hcc⟩ := hc2 (by omega)
            have hx : lo[k]? = some (lo[k]'hlt) := List.getElem?_eq_getElem hlt
            generalize lo[k]'hlt = x at hx
            have c0 := (hbel.cell (p := ⟨b', _, none⟩) hb').trans (hcc k hlt 0 (by omega))
            have c1 := (hbel.cell (p := ⟨b', _, none⟩) hb').trans (hcc k hlt 1 (by omega))
            have c2 := (hbel.cell (p := ⟨b', _, none⟩) hb').trans (hcc k hlt 2 (by omega))
            have c3 := (hbel.cell (p := ⟨b', _, none⟩) hb').trans (hcc k hlt 3 (by omega))
            have c4 := (hbel.cell (p := ⟨b', _, none⟩) hb').trans (hcc k hlt 4 (by omega))
            rw [atl_get hx (v := .int .i64 x.pid) rfl] at c0
            rw [atl_get hx (v := .int .i64 x.slot) rfl] at c1
            rw [atl_get hx (v := .int .i64 x.kind) rfl] at c2
            rw [atl_get hx (v := .int .i64 x.obj) rfl] at c3
            rw [atl_get hx (v := .int .i64 x.off) rfl] at c4
            simp only [Nat.add_zero] at c0
            have hnx := load_next hx
            have ba := alloc_below wr (.cells (da x) 23)
            have hr0 := hr.quiet ba
            have hb0 := hbel.trans (ba.mono hsz)
            have hn0 := Blk.new wr 23 (da x)
            rcases hL : loadL (lo.take k) with _ | L
            · rw [hL] at hnx
              have hnx' : loadL (lo.take (k + 1)) = none := hnx
              have HN := Lib.hid hnx'
              clear hcc hc2 hx hnx hnx' hL hLX hr hbel ba hn0
              obtain ⟨y1, y2, y3, y4, y5⟩ := x
              unfold da at *
              simp only at *
              simp only [Option.isSome_none]
              go_wp2
              go_roundw
              case rel => exact ⟨k + 1, lx, by omega, by go_num, by rw [HN.out]; rfl, by omega, (fun L hL => by rw [HN.out] at hL; cases hL), hr0, hb0⟩
              case measure => simp [intOf]; omega
            · have eL := hLX.out L hL
              subst eL
              rw [hL] at hnx
              have hnx' : loadL (lo.take (k + 1)) = if rg x && !(atB lx x.pid x.slot) then some (insL lx x) else none := hnx
              have hF := fun u => ref_any x u
              have hR := fun u => rright x u
              have HF := Lib.hid hF
              cases hrx : rg x
              · rw [hrx] at hnx' hR
                simp only [Bool.false_and, Bool.false_eq_true, if_false] at hnx'
                have HN := Lib.hid hnx'
                have HR := Lib.hid hR
                clear hcc hc2 hx hnx hnx' hL hLX hr hbel ba hF hR hrx
                obtain ⟨y1, y2, y3, y4, y5⟩ := x
                unfold da at *
                simp only at *
                simp only [Option.isSome_some]
                go_wp2_with fail
                refine (HF.out _).mono ?_
                rintro e w6 ⟨rfl, b6⟩
                have hr6 := hr0.quiet b6
                have hb6 := hb0.trans (b6.mono hb0.size)
                clear HF b6 hr0 hb0 hn0 c0 c1 c2 c3 c4
                go_wp2_with fail
                refine (HR.out _).mono ?_
                rintro e w7 ⟨rfl, b7⟩
                have hr7 := hr6.quiet b7
                have hb7 := hb6.trans (b7.mono hb6.size)
                clear HR b7 hr6 hb6
                go_wp2
                go_roundw
                case rel => exact ⟨k + 1, lx, by omega, by go_num, by rw [HN.out]; rfl, by omega, (fun L hL => by rw [HN.out] at hL; cases hL), hr7, hb7⟩
                case measure => simp [intOf]; omega
              · rw [hrx, Bool.true_and] at hnx'
                rw [hrx] at hR
                have hA := fun u hu => rat u w.heap.size w5.heap.size lx x.pid x.slot hu (by omega)
                have HR := Lib.hid hR
                rcases hlk : look lx x.pid x.slot with _ | z
                · rw [(atB_none hlk).1] at hnx'
                  simp only [Bool.not_false, if_true] at hnx'
                  rw [atI_none hlk] at hA
                  have hIns := fun u hu hBu => rins u w.heap.size w5.heap.size lx x hu (by omega) hBu
                  have hll : (insL lx x).length ≤ k + 1 := by
                    have := load_len _ [] _ hnx'
                    rw [this, List.length_take]
                    simp
                    omega
                  have HN := Lib.hid hnx'
                  have HA := Lib.hid hA
                  have HI2 := Lib.hid hIns
                  clear hcc hc2 hx hnx hnx' hL hLX hr hbel ba hF hR hrx hlk hA hIns
                  obtain ⟨y1, y2, y3, y4, y5⟩ := x
                  unfold da at *
                  simp only at *
                  simp only [Option.isSome_some]
                  go_wp2_with fail
                  refine (HF.out _).mono ?_
                  rintro e w6 ⟨rfl, b6⟩
                  have hr6 := hr0.quiet b6
                  have hb6 := hb0.trans (b6.mono hb0.size)
                  have hn6 := hn0.mod (Mod.of_below b6) (fun h => h)
                  clear b6 hr0 hb0 hn0 c0 c1 c2 c3 c4
                  go_wp2_with fail
                  refine (HR.out _).mono ?_
                  rintro e w7 ⟨rfl, b7⟩
                  have hr7 := hr6.quiet b7
                  have hb7 := hb6.trans (b7.mono hb6.size)
                  have hn7 := hn6.mod (Mod.of_below b7) (fun h => h)
                  have q0 := hn7.cell 0
                  have q1 := hn7.cell 1
                  simp at q0 q1
                  clear HR b7 hr6 hb6 hn6
                  go_wp2_with fail
                  refine (HA.out _ hr7).mono ?_
                  rintro e w8 ⟨rfl, b8⟩
                  have hr8 := hr7.quiet b8
                  have hb8 := hb7.trans (b8.mono hb7.size)
                  have hn8 := hn7.mod (Mod.of_below b8) (fun h => h)
                  clear q0 q1
                  have q0 := hn8.cell 0
                  have q1 := hn8.cell 1
                  have q2 := hn8.cell 2
                  have q3 := hn8.cell 3
                  have q4 := hn8.cell 4
                  simp at q0 q1 q2 q3 q4
                  clear HA b8 hr7 hb7 hn7
                  go_wp2_with fail
                  refine (HF.out _).mono ?_
                  rintro e w9 ⟨rfl, b9⟩
                  have hr9 := hr8.quiet b9
                  have hb9 := hb8.trans (b9.mono hb8.size)
                  clear HF b9 hr8 hb8 hn8 q0 q1 q2 q3 q4
                  go_wp2_with fail
                  refine (HI2.out _ hr9 hb9.size).mono ?_
                  rintro e wa ⟨rfl, hra, ma⟩
                  have hba := hb9.trans (hr9.bl hb9.size ma)
                  clear HI2 hr9 hb9 ma
                  go_wp2
                  go_roundw
                  case rel => exact ⟨k + 1, _, by omega, by go_num, by rw [HN.out]; rfl, hll, (fun L hL => by rw [HN.out] at hL; cases hL; rfl), hra, hba⟩
                  case measure => simp [intOf]; omega
                · rw [(atB_some hlk).1] at hnx'
                  simp only [Bool.not_true, Bool.false_eq_true, if_false] at hnx'
                  obtain ⟨m, em, _⟩ := atI_some hlk
                  rw [em] at hA
                  have HN := Lib.hid hnx'
                  have HA := Lib.hid hA
                  clear hcc hc2 hx hnx hnx' hL hLX hr hbel ba hF hR hrx hlk hA em
                  obtain ⟨y1, y2, y3, y4, y5⟩ := x
                  unfold da at *
                  simp only at *
                  simp only [Option.isSome_some]
                  go_wp2_with fail
                  refine (HF.out _).mono ?_
                  rintro e w6 ⟨rfl, b6⟩
                  have hr6 := hr0.quiet b6
                  have hb6 := hb0.trans (b6.mono hb0.size)
                  have hn6 := hn0.mod (Mod.of_below b6) (fun h => h)
                  clear b6 hr0 hb0 hn0 c0 c1 c2 c3 c4
                  go_wp2_with fail
                  refine (HR.out _).mono ?_
                  rintro e w7 ⟨rfl, b7⟩
                  have hr7 := hr6.quiet b7
                  have hb7 := hb6.trans (b7.mono hb6.size)
                  have hn7 := hn6.mod (Mod.of_below b7) (fun h => h)
                  have q0 := hn7.cell 0
                  have q1 := hn7.cell 1
                  simp at q0 q1
                  clear HR b7 hr6 hb6 hn6
                  go_wp2_with fail
                  refine (HA.out _ hr7).mono ?_
                  rintro e w8 ⟨rfl, b8⟩
                  have hr8 := hr7.quiet b8
                  have hb8 := hb7.trans (b8.mono hb7.size)
                  clear HA b8 hr7 hb7 hn7 q0 q1
                  go_wp2
                  go_roundw
                  case rel => exact ⟨k + 1, lx, by omega, by go_num, by rw [HN.out]; rfl, by omega, (fun L hL => by rw [HN.out] at hL; cases hL), hr8, hb8⟩
                  case measure => simp [intOf]; omega
          · obtain rfl : k = lo.length := by omega
            clear hc2
            rw [List.take_length] at hLX ⊢
            have hi := (HI.out.below hbel).mono hsz
            have hld := load_any wr _ lo hi (by omega)
            clear HI hi
            rcases hL : loadL lo with _ | L
            · rw [hL] at hld
              have HD := Lib.hid hld
              clear hld hL hLX hr
              simp only [Option.isSome_none]
              go_wp2_with fail
              refine HD.out.mono ?_
              rintro e w6 ⟨rfl, b6⟩
              have hb6 := hbel.trans (b6.mono hsz)
              clear HD b6 hbel
              go_wp2_with fail
              refine (five_any _).mono ?_
              rintro e w7 ⟨rfl, b7⟩
              have hb7 := hb6.trans (b7.mono hb6.size)
              clear hb6 b7
              go_wp2
              go_ret
              exact ⟨rfl, hb7⟩
            · have eL := hLX.out L hL
              subst eL
              have hgood : Good lx := load_good lo [] lx good_nil hL
              have hlen9 := hgood.len
              rw [hL] at hld
              have HD := Lib.hid hld
              clear hld hL hLX
              simp only [Option.isSome_some]
              go_wp2_with fail
              refine HD.out.mono ?_
              rintro e w6 ⟨⟨bv, rfl, hdv⟩, b6⟩
              have hr6 := hr.quiet b6
              have hb6 := (hbel.trans (b6.mono hsz)).drew
              obtain ⟨_, v9, hb9, ho9⟩ := hr6.quiet (Below.refl _ w6).drew
              obtain ⟨a9, c9, rfl⟩ := len_of_own ho9
              have k9 := hb9.cell 0
              simp at k9
              have hq := list_any w6.drew _ lx (.inr ⟨_, _, rfl, hdv.quiet (Below.refl _ w6).drew⟩)
              rw [all_eq hgood] at hq
              have HQ := Lib.hid hq
              have HO := Lib.hid (And.intro hb9 (And.intro ho9 hb6))
              clear hq HD hr6 b6 hb6 hb9 ho9 hdv hr hbel
              go_wp2_with fail
              go_region_held3 (fun w' => w'.cell? ⟨w5.heap.size, 0, none⟩ = some (.slice a9 lx.length c9))
                (first | exact k9 | exact g1 | exact g2 | exact g3)
                (first
                  | (go_at_call 21; refine HQ.out.mono ?_; rintro e w7 ⟨v3, rfl, ho3, b7⟩; obtain ⟨a3, c3, rfl⟩ := len_of_own ho3; have g1 := (b7.cell (p := ⟨w5.heap.size, 0, none⟩) HO.out.1.lt).trans k9; have u3 := HO.out.1.mod (Mod.of_below b7) (fun h => h); have i3 := own_inp dc_len ho3 rfl (by unfold maxLen; omega); have i9 := own_inp dc_len (ownsRow_mod HO.out.2.1 (Mod.of_below b7) (fun _ _ _ _ h => h)) rfl (by unfold maxLen; omega); have t7 := HO.out.2.2.trans (b7.mono HO.out.2.2.size); clear ho3 b7)
                  | (go_at_call 20; refine (same_any _ _ _ lx i3 i9 (by omega)).mono ?_; rintro e w8 ⟨rfl, b8⟩; have g2 := (b8.cell (p := ⟨w5.heap.size, 0, none⟩) u3.lt).trans g1; have u8 := u3.mod (Mod.of_below b8) (fun h => h); have t8 := t7.trans (b8.mono t7.size); clear b8)
                  | (go_at_call 17; refine (five_any _).mono ?_; rintro e w9 ⟨rfl, b9⟩; have g3 := (b9.cell (p := ⟨w5.heap.size, 0, none⟩) u8.lt).trans g2; have t9 := t8.trans (b9.mono t8.size); clear b9))
              all_goals
                go_wp2
                go_ret
                exact ⟨rfl, by assumption⟩
end Go.Proofs.Ytidmkdaegglepaa
