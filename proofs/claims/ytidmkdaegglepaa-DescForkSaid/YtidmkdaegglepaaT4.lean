/- DescFork, the walk. -/
import Derived.Test.YtidmkdaegglepaaP2
set_option linter.all false
namespace Go.Proofs.Ytidmkdaegglepaa
open Go.RowKit

/-- What a child has behind a Fork. -/
theorem fork_law {L : List DE} (hG : Good L) (p c s : Int) (h0 : forkE L p c = 0) :
    (look L p s = none ∧ look (forkL L p c) p s = none ∧ look (forkL L p c) c s = none) ∨
    ∃ x, look L p s = some x ∧ look (forkL L p c) p s = some x ∧ look (forkL L p c) c s = some (setp c x) := by
  have hg : Good (forkL L p c) := hG.fork p c
  unfold forkE at h0
  split at h0
  · omega
  · rename_i hpc
    split at h0
    · rename_i he
      have eL : forkL L p c = forkF c L (ofL L p) := by unfold forkL; rw [if_neg hpc, if_pos he]
      rw [eL] at hg ⊢
      rcases h : look L p s with _ | x
      · refine .inl ⟨rfl, ?_, ?_⟩
        · refine look_none.2 fun z hz h2 => ?_
          rcases mem_fork.1 hz with hz | ⟨y, hy, rfl⟩
          · exact look_none.1 h z hz h2
          · have : c = p := h2.1
            omega
        · refine look_none.2 fun z hz h2 => ?_
          rcases mem_fork.1 hz with hz | ⟨y, hy, rfl⟩
          · exact look_none.1 (of_empty hG he s) z hz h2
          · have h3 := (mem_of hG).1 hy
            exact look_none.1 h y h3.1 ⟨h3.2, h2.2⟩
      · have hx := look_at h
        refine .inr ⟨x, rfl, ?_, ?_⟩
        · have : x ∈ forkF c L (ofL L p) := mem_fork.2 (.inl hx.1)
          have := look_mem hg.keys x this
          rwa [hx.2.1, hx.2.2] at this
        · have hxp : x ∈ ofL L p := (mem_of hG).2 ⟨hx.1, hx.2.1⟩
          have : setp c x ∈ forkF c L (ofL L p) := mem_fork.2 (.inr ⟨x, hxp, rfl⟩)
          have := look_mem hg.keys _ this
          have e : (setp c x).pid = c := rfl
          have e2 : (setp c x).slot = s := hx.2.2
          rwa [e, e2] at this
    · omega
theorem fork_law2 {L : List DE} (hG : Good L) (p c s : Int) (h0 : forkE L p c = 0) :
    (gtE (forkL L p c) p s = 6 ∧ gtE (forkL L p c) c s = 6 ∧ atV (forkL L p c) p s = dz ∧ atV (forkL L p c) c s = dz) ∨
    (gtE (forkL L p c) p s = 0 ∧ gtE (forkL L p c) c s = 0 ∧ atV (forkL L p c) c s = setp c (atV (forkL L p c) p s)) := by
  rcases fork_law hG p c s h0 with ⟨_, h2, h3⟩ | ⟨x, _, h2, h3⟩
  · exact .inl ⟨by simp [gtE, atB, h2], by simp [gtE, atB, h3], by simp [atV, h2], by simp [atV, h3]⟩
  · exact .inr ⟨by simp [gtE, atB, h2], by simp [gtE, atB, h3], by simp [atV, h2, h3]⟩
theorem fork_else {L : List DE} (p c : Int) (h0 : forkE L p c ≠ 0) : forkL L p c = L := by
  unfold forkE at h0
  unfold forkL
  split
  · rfl
  · rename_i h
    rw [if_neg h] at h0
    split
    · rename_i he; rw [if_pos he] at h0; exact absurd rfl h0
    · rfl
set_option maxHeartbeats 12800000 in
set_option maxRecDepth 100000 in
theorem descFork_any (v : Value) (l : List ST) (p s : Int) (w : World) (hin : Inp w w.heap.size v l.length 6 (atl sc l)) :
    Calls Try.prog 6 #[v, .int .i64 p, .int .i64 s] w fun e w' => e = .returned (.bool true) ∧ Below w.heap.size w w' := by
  obtain ⟨_, a, cap, rfl, hc⟩ := hin
  go_enter Try.func6, Try.ntmps6
  go_wp2_with fail
  refine (dnew w w.heap.size (Nat.le_refl _)).mono ?_
  rintro e w1 ⟨b, rfl, hd1, b1⟩
  by_cases hlen : 60 < l.length
  · have d0 : decide (60 < l.length) = true := by simpa using hlen
    clear hc hd1
    go_wp2_with fail
    refine (five_any _).mono ?_
    rintro e w2 ⟨rfl, b2⟩
    have b3 := b1.trans (b2.mono b1.size)
    clear b2 b1
    go_wp2
    go_ret
    exact ⟨rfl, b3⟩
  have d0 : decide (60 < l.length) = false := by simp; omega
  have hp1 := pt_new w1 w.heap.size b hd1 b1.size
  have b2 := b1.alloc b1.size (.cells #[.slice none 0 0] 35)
  clear hd1 b1
  go_wp2_with fail
  go_loopw [33] (fun i wr => ∃ (k : Nat) (L : List DE), k ≤ l.length ∧ i = .int .i64 k ∧ PT wr w.heap.size b w1.heap.size L ∧ Below w.heap.size w wr) (fun i _ => l.length - (intOf i).toNat)
  case atStart => exact ⟨0, [], by omega, rfl, hp1, b2⟩
  case round =>
    obtain ⟨k, L, hk, rfl, hp, hbel⟩ := hrel
    clear hp1 b2
    have hsz := hbel.size
    by_cases hlt : k < l.length
    · obtain ⟨b', off, rfl, hb', hcc⟩ := hc (by omega)
      have hx : l[k]? = some (l[k]'hlt) := List.getElem?_eq_getElem hlt
      generalize l[k]'hlt = st at hx
      have c0 := (hbel.cell (p := ⟨b', _, none⟩) hb').trans (hcc k hlt 0 (by omega))
      have c1 := (hbel.cell (p := ⟨b', _, none⟩) hb').trans (hcc k hlt 1 (by omega))
      have c2 := (hbel.cell (p := ⟨b', _, none⟩) hb').trans (hcc k hlt 2 (by omega))
      have c3 := (hbel.cell (p := ⟨b', _, none⟩) hb').trans (hcc k hlt 3 (by omega))
      have c4 := (hbel.cell (p := ⟨b', _, none⟩) hb').trans (hcc k hlt 4 (by omega))
      have c5 := (hbel.cell (p := ⟨b', _, none⟩) hb').trans (hcc k hlt 5 (by omega))
      rw [atl_get hx (v := .int .i64 st.what) rfl] at c0
      rw [atl_get hx (v := .int .i64 st.pid) rfl] at c1
      rw [atl_get hx (v := .int .i64 st.slot) rfl] at c2
      rw [atl_get hx (v := .int .i64 st.kind) rfl] at c3
      rw [atl_get hx (v := .int .i64 st.obj) rfl] at c4
      rw [atl_get hx (v := .int .i64 st.n) rfl] at c5
      simp only [Nat.add_zero] at c0
      have hD := fun u hu hBu => does_any u w.heap.size b w1.heap.size L st hu hBu
      have ba := (alloc_below wr (.cells (sa st) 37))
      have hp0 := hp.quiet ba
      have hb0 := hbel.trans (ba.mono hsz)
      generalize stepL L st = L' at *
      have HD := Lib.hid hD
      clear hcc hc hx hD hp hbel ba
      obtain ⟨x1, x2, x3, x4, x5, x6⟩ := st
      unfold sa at *
      simp only at *
      go_wp2_with fail
      refine (HD.out _ hp0 hb0.size).mono ?_
      rintro e w3 ⟨rfl, hp3, m3⟩
      have hb3 := hb0.trans (m3.below (B := w.heap.size) hb0.size (SF.low hp0.d hp0.r))
      clear HD hp0 hb0 m3 c0 c1 c2 c3 c4 c5
      go_wp2
      go_roundw
      case rel => exact ⟨k + 1, L', by omega, by go_num, hp3, hb3⟩
      case measure => simp [intOf]; omega
    · obtain rfl : k = l.length := by omega
      clear hc
      go_wp2_with fail
      refine (fork_dt wr _ b L p s hp.d hp.good).mono ?_
      rintro e w2 ⟨rfl, hd2, m2⟩
      have hr2 := PT.stepR hp.d hp.r m2
      have hb2 := hbel.trans (hp.d.bl hbel.size m2)
      by_cases hf : forkE L p s = 0
      · rw [hf]
        have hlw := fun q => fork_law2 hp.good p s q hf
        generalize forkL L p s = L2 at *
        have HL := Lib.hid hlw
        have HF := Lib.hid hf
        clear hf hlw hp m2 hr2 hbel
        go_wp2_with fail
        go_loopw [11] (fun i wq => ∃ (j : Nat), j ≤ 6 ∧ i = .int .i64 j ∧ DT wq w.heap.size b L2 ∧ Below w.heap.size w wq) (fun i _ => 6 - (intOf i).toNat)
        case atStart => exact ⟨0, by omega, rfl, hd2, hb2⟩
        case round =>
          obtain ⟨j, hj, rfl, hd, hbel⟩ := hrel
          clear hd2 hb2
          by_cases hjl : j < 6
          · have d9 : decide ((j : Int) < 6) = true := by simp; omega
            have hG1 := get_any wr _ L2 p j (.inr ⟨_, _, rfl, hd⟩)
            have hG2 := fun u (hu : DT u w.heap.size b L2) => get_any u _ L2 s j (.inr ⟨_, _, rfl, hu⟩)
            have hlw := HL.out j
            generalize atV L2 p j = x at *
            generalize gtE L2 p j = e at *
            generalize atV L2 s j = y at *
            generalize gtE L2 s j = f at *
            have HG1 := Lib.hid hG1
            have HG2 := Lib.hid hG2
            have HW := Lib.hid hlw
            clear hG1 hG2 hlw
            obtain ⟨y1, y2, y3, y4, y5⟩ := x
            obtain ⟨z1, z2, z3, z4, z5⟩ := y
            unfold da at *
            simp only at *
            go_wp2_with fail
            refine HG1.out.mono ?_
            rintro e' w5 ⟨rfl, b5⟩
            have hd5 := (hd.quiet b5).quiet (alloc_below w5 (.cells #[.int .i64 y1, .int .i64 y2, .int .i64 y3, .int .i64 y4, .int .i64 y5] 23))
            have hb5 := hbel.trans (b5.mono hbel.size)
            have hb5 := hb5.alloc hb5.size (.cells #[.int .i64 y1, .int .i64 y2, .int .i64 y3, .int .i64 y4, .int .i64 y5] 23)
            have hx5 := Blk.new w5 23 #[.int .i64 y1, .int .i64 y2, .int .i64 y3, .int .i64 y4, .int .i64 y5]
            clear HG1 b5 hd hbel
            go_wp2_with fail
            refine (HG2.out _ hd5).mono ?_
            rintro e' w6 ⟨rfl, b6⟩
            have hd6 := (hd5.quiet b6).quiet (alloc_below w6 (.cells #[.int .i64 z1, .int .i64 z2, .int .i64 z3, .int .i64 z4, .int .i64 z5] 23))
            have hb6 := hb5.trans (b6.mono hb5.size)
            have hb6 := hb6.alloc hb6.size (.cells #[.int .i64 z1, .int .i64 z2, .int .i64 z3, .int .i64 z4, .int .i64 z5] 23)
            have hx6 := (hx5.mod (Mod.of_below b6) (fun h => h)).alloc (.cells #[.int .i64 z1, .int .i64 z2, .int .i64 z3, .int .i64 z4, .int .i64 z5] 23)
            have r2 := hx6.cell 2
            have r3 := hx6.cell 3
            have r4 := hx6.cell 4
            simp at r2 r3 r4
            clear HG2 b6 hd5 hb5 hx5 hx6
            rcases HW.out with ⟨rfl, rfl, ex, ey⟩ | ⟨rfl, rfl, ey⟩
            · injection ex with g1 g2 g3 g4 g5
              injection ey with g6 g7 g8 g9 g10
              subst g1 g2 g3 g4 g5 g6 g7 g8 g9 g10
              clear HW
              go_wp2
              go_roundw
              case rel => exact ⟨j + 1, by omega, by go_num, hd6, hb6⟩
              case measure => simp [intOf]; omega
            · injection ey with g6 g7 g8 g9 g10
              subst g6 g7 g8 g9 g10
              clear HW
              go_wp2
              go_roundw
              case rel => exact ⟨j + 1, by omega, by go_num, hd6, hb6⟩
              case measure => simp [intOf]; omega
          · obtain rfl : j = 6 := by omega
            go_wp2_with fail
            refine (five_any _).mono ?_
            rintro e w9 ⟨rfl, b9⟩
            have t9 := hbel.trans (b9.mono hbel.size)
            clear b9 hbel
            go_wp2
            go_ret
            exact ⟨rfl, t9⟩
      · have e2 := fork_else p s hf
        rw [e2] at hd2
        have hgood := hp.good
        have hlen9 := hgood.len
        have hfn : (forkE L p s == 0) = false := by simpa using hf
        generalize forkE L p s = f at *
        obtain ⟨_, v9, hb9, ho9⟩ := hr2.quiet (Below.refl _ w2).drew
        obtain ⟨a9, c9, rfl⟩ := len_of_own ho9
        have k9 := hb9.cell 0
        simp at k9
        have hq := list_any w2.drew _ L (.inr ⟨_, _, rfl, hd2.quiet (Below.refl _ w2).drew⟩)
        rw [all_eq hgood] at hq
        have HQ := Lib.hid hq
        have HO := Lib.hid (And.intro hb9 (And.intro ho9 hb2.drew))
        clear hq e2 hf hd2 hp m2 hr2 hb9 ho9 hbel
        go_wp2_with fail
        go_region_held3 (fun w' => w'.cell? ⟨w1.heap.size, 0, none⟩ = some (.slice a9 L.length c9))
          (first | exact k9 | exact g1 | exact g2 | exact g3)
          (first
            | (go_at_call 21; refine HQ.out.mono ?_; rintro e w3 ⟨v3, rfl, ho3, b3⟩; obtain ⟨a3, c3, rfl⟩ := len_of_own ho3; have g1 := (b3.cell (p := ⟨w1.heap.size, 0, none⟩) HO.out.1.lt).trans k9; have u3 := HO.out.1.mod (Mod.of_below b3) (fun h => h); have i3 := own_inp dc_len ho3 rfl (by unfold maxLen; omega); have i9 := own_inp dc_len (ownsRow_mod HO.out.2.1 (Mod.of_below b3) (fun _ _ _ _ h => h)) rfl (by unfold maxLen; omega); have t3 := HO.out.2.2.trans (b3.mono HO.out.2.2.size); clear ho3 b3)
            | (go_at_call 20; refine (same_any w3 _ _ L i3 i9 (by omega)).mono ?_; rintro e w4 ⟨rfl, b4⟩; have g2 := (b4.cell (p := ⟨w1.heap.size, 0, none⟩) u3.lt).trans g1; have u4 := u3.mod (Mod.of_below b4) (fun h => h); have t4 := t3.trans (b4.mono t3.size); clear b4)
            | (go_at_call 17; refine (five_any _).mono ?_; rintro e w5 ⟨rfl, b5⟩; have g3 := (b5.cell (p := ⟨w1.heap.size, 0, none⟩) u4.lt).trans g2; have t5 := t4.trans (b5.mono t4.size); clear b5))
        all_goals
          go_wp2
          go_ret
          exact ⟨rfl, by assumption⟩
end Go.Proofs.Ytidmkdaegglepaa
