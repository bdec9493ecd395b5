/- The reference's descriptors: Fork. -/
import Derived.Test.YtidmkdaegglepaaS4
set_option linter.all false
namespace Go.Proofs.Ytidmkdaegglepaa
open Go.RowKit

set_option maxHeartbeats 3200000 in
set_option maxRecDepth 100000 in
theorem rfork_arg (w : World) (q : Value) (p c : Int) (h : p < 1 ∨ 6 < p ∨ c < 1 ∨ 6 < c ∨ p = c) :
    Calls Try.prog 61 #[q, .int .i64 p, .int .i64 c] w fun e w' => e = .returned (.int .i64 1) ∧ Below w.heap.size w w' := by
  by_cases h1 : p < 1
  · have d1 : decide (p < 1) = true := by simpa using h1
    clear h h1
    go_enter Try.func61, Try.ntmps61
    go_wp2
    go_ret
    exact ⟨rfl, Below.refl _ _⟩
  · have d1 : decide (p < 1) = false := by simpa using h1
    by_cases h2 : 6 < p
    · have d2 : decide (6 < p) = true := by simpa using h2
      clear h h1 h2
      go_enter Try.func61, Try.ntmps61
      go_wp2
      go_ret
      exact ⟨rfl, Below.refl _ _⟩
    · have d2 : decide (6 < p) = false := by simpa using h2
      by_cases h3 : c < 1
      · have d3 : decide (c < 1) = true := by simpa using h3
        clear h h1 h2 h3
        go_enter Try.func61, Try.ntmps61
        go_wp2
        go_ret
        exact ⟨rfl, Below.refl _ _⟩
      · have d3 : decide (c < 1) = false := by simpa using h3
        by_cases h4 : 6 < c
        · have d4 : decide (6 < c) = true := by simpa using h4
          clear h h1 h2 h3 h4
          go_enter Try.func61, Try.ntmps61
          go_wp2
          go_ret
          exact ⟨rfl, Below.refl _ _⟩
        · have d4 : decide (6 < c) = false := by simpa using h4
          have d5 : (p == c) = true := by simp; omega
          clear h h1 h2 h3 h4
          go_enter Try.func61, Try.ntmps61
          go_wp2
          go_ret
          exact ⟨rfl, Below.refl _ _⟩
set_option maxHeartbeats 3200000 in
set_option maxRecDepth 100000 in
theorem rfork_full (w : World) (B rb : Nat) (l : List DE) (p c : Int) (h : RT w B rb l) (hl : l.length ≤ 36) (h1 : ¬ (p < 1 ∨ 6 < p ∨ c < 1 ∨ 6 < c ∨ p = c)) (hf : (leftL l c (-1)).length < l.length) :
    Calls Try.prog 61 #[.pointer (some ⟨rb, 0, none⟩), .int .i64 p, .int .i64 c] w fun e w' => e = .returned (.int .i64 7) ∧ Below w.heap.size w w' := by
  have d1 : decide (p < 1) = false := by simp; omega
  have d2 : decide (6 < p) = false := by simp; omega
  have d3 : decide (c < 1) = false := by simp; omega
  have d4 : decide (6 < c) = false := by simp; omega
  have d5 : (p == c) = false := by simp; omega
  have hL := fun u (hu : RT u B rb l) => rleft u B rb l c (-1) hu (by omega)
  have hb0 := h
  obtain ⟨hlow, v, hb, hown⟩ := hb0
  obtain ⟨a1, c1, rfl⟩ := len_of_own hown
  have k0 := hb.cell 0
  simp at k0
  generalize leftL l c (-1) = u at *
  generalize hu : u.length = n at *
  have d6 : decide ((n : Int) < (l.length : Int)) = true := by simp; omega
  have HL := Lib.hid hL
  have b0 := (Below.refl w.heap.size w).drew
  have HH := Lib.hid (And.intro (h.quiet b0) hb.drew)
  clear h1 hL hu hown hb h
  go_enter Try.func61, Try.ntmps61
  go_wp2_with fail
  go_region_held3 (fun w' => w'.cell? ⟨rb, 0, none⟩ = some (.slice a1 l.length c1))
    (first | exact k0 | exact g1)
    (first
      | (go_at_call 85; refine (HL.out _ HH.out.1).mono ?_; rintro e w1 ⟨v1, rfl, ho1, b1⟩; obtain ⟨a2, c2, rfl⟩ := len_of_own ho1; have g1 : w1.cell? ⟨rb, 0, none⟩ = some (.slice a1 l.length c1) := (b1.cell (p := ⟨rb, 0, none⟩) HH.out.2.lt).trans k0; have t1 := b0.trans b1; clear ho1 b1))
  all_goals
    go_wp2
    go_ret
    exact ⟨rfl, by assumption⟩
theorem left_empty {L : List DE} (h : Good L) (c : Int) : (leftL L c (-1)).length < L.length ↔ ofL L c ≠ [] := by
  have := drop_len h c
  rw [left_drop]
  rw [← List.length_pos_iff]
  omega
theorem take_filter (f : DE → Bool) (l : List DE) (j : Nat) : (l.take j).filter f = (l.filter f).take ((l.take j).filter f).length := by
  have e : l.filter f = (l.take j).filter f ++ (l.drop j).filter f := by rw [← List.filter_append, List.take_append_drop]
  rw [e]
  exact List.take_left.symm
def isP (p : Int) (x : DE) : Bool := x.pid == p
theorem fork_len {l : List DE} (hG : Good l) {p c : Int} (he : ofL l c = []) (h1 : 1 ≤ c) (h6 : c ≤ 6) (j : Nat) : (forkF c l ((l.take j).filter (isP p))).length ≤ 36 := by
  have hof : ofL l p = l.filter (isP p) := of_filter hG p
  rw [take_filter, ← hof]
  refine (good_fork hG he h1 h6 _ ?_).len
  rw [hof]
  exact ((List.take_sublist j l).filter _).length_le
theorem isP_yes {l : List DE} {p : Int} {j : Nat} {x : DE} (h : l[j]? = some x) (hk : isP p x = true) : (l.take (j + 1)).filter (isP p) = (l.take j).filter (isP p) ++ [x] := by
  rw [take_snoc_list h, List.filter_append]
  simp [hk]
theorem isP_no {l : List DE} {p : Int} {j : Nat} {x : DE} (h : l[j]? = some x) (hk : isP p x = false) : (l.take (j + 1)).filter (isP p) = (l.take j).filter (isP p) := by
  rw [take_snoc_list h, List.filter_append]
  simp [hk]
theorem Mod.cell {F : Nat → Prop} {w w' : World} (h : Mod F w w') {p : Addr} (hp : p.block < w.heap.size) (hF : ¬ F p.block) : w'.cell? p = w.cell? p :=
  World.cell?_of_block (h.block p.block hp hF)
set_option maxHeartbeats 3200000 in
set_option maxRecDepth 100000 in
theorem rfork_go (w : World) (B rb : Nat) (l : List DE) (p c : Int) (h : RT w B rb l) (hG : Good l) (hB : B ≤ w.heap.size) (h1 : ¬ (p < 1 ∨ 6 < p ∨ c < 1 ∨ 6 < c ∨ p = c)) (he : ofL l c = []) :
    Calls Try.prog 61 #[.pointer (some ⟨rb, 0, none⟩), .int .i64 p, .int .i64 c] w fun e w' => e = .returned (.int .i64 0) ∧ RT w' B rb (forkF c l (ofL l p)) ∧ Mod (RF w B rb) w w' := by
  have hl := hG.len
  have d1 : decide (p < 1) = false := by simp; omega
  have d2 : decide (6 < p) = false := by simp; omega
  have d3 : decide (c < 1) = false := by simp; omega
  have d4 : decide (6 < c) = false := by simp; omega
  have d5 : (p == c) = false := by simp; omega
  have hL := fun u (hu : RT u B rb l) => rleft u B rb l c (-1) hu (by omega)
  have hlow := h.low
  have hb0 := h
  obtain ⟨_, v, hb, hown⟩ := hb0
  have hown0 := hown
  obtain ⟨_, a1, c1, rfl, hc⟩ := own_inp dc_len hown rfl (by unfold maxLen; omega)
  have k0 := hb.cell 0
  simp at k0
  have hlen : (leftL l c (-1)).length = l.length := by
    have h2 : ¬ (leftL l c (-1)).length < l.length := fun h => (left_empty hG c).1 h he
    have := left_len l c (-1)
    omega
  have hof : ofL l p = l.filter (isP p) := of_filter hG p
  have hln : ∀ j : Nat, (forkF c l ((l.take j).filter (isP p))).length ≤ 36 := fork_len hG he (by omega) (by omega)
  rw [hof]
  generalize leftL l c (-1) = u at *
  have HL := Lib.hid hL
  have b0 := (Below.refl w.heap.size w).drew
  have HH := Lib.hid (And.intro (h.quiet b0) hb.drew)
  have HN := Lib.hid hln
  have hne : ∀ b off, a1 = some ⟨b, off, none⟩ → b ≠ rb := by
    rintro b off rfl e
    rcases hown0.2 with ⟨h1, _⟩ | ⟨g', cap', cur, h1, h3, h4, _⟩
    · cases h1
    · cases h1
      have hcur : Blk w b 26 cur := h4
      exact (hcur.ne_ hb (by decide)) e
  have HNE := Lib.hid hne
  clear h1 hL hown hb h hof hln hG he hown0 hne
  go_enter Try.func61, Try.ntmps61
  go_wp2_with fail
  go_region_held3 (fun w' => w'.cell? ⟨rb, 0, none⟩ = some (.slice a1 l.length c1))
    (first | exact k0 | exact g1)
    (first
      | (go_at_call 85; refine (HL.out _ HH.out.1).mono ?_; rintro e w1 ⟨v1, rfl, ho1, b1⟩; obtain ⟨a2, c2, rfl⟩ := len_of_own ho1; have g1 : w1.cell? ⟨rb, 0, none⟩ = some (.slice a1 l.length c1) := (b1.cell (p := ⟨rb, 0, none⟩) HH.out.2.lt).trans k0; have t1 := b0.trans b1; rw [hlen]; clear ho1))
  all_goals
    go_wp2_with fail
    have h1 := HH.out.1.quiet b1
    have hbs := t1.size
    clear HL b1 b0
    go_loopw [43] (fun i wr => ∃ k : Nat, k ≤ l.length ∧ i = .int .i64 k ∧ RT wr B rb (forkF c l ((l.take k).filter (isP p))) ∧ Mod (fun x => x = rb) w wr) (fun i _ => l.length - (intOf i).toNat)
    case atStart => exact ⟨0, by omega, rfl, by rw [List.take_zero]; exact h1, mod_q t1⟩
    case round =>
      obtain ⟨k, hk, rfl, hd, hm⟩ := hrel
      by_cases hlt : k < l.length
      · obtain ⟨b', off, rfl, hb', hcc⟩ := hc (by omega)
        have hnb : ¬ b' = rb := HNE.out b' off rfl
        have hx : l[k]? = some (l[k]'hlt) := List.getElem?_eq_getElem hlt
        generalize l[k]'hlt = x at hx
        have c0 := (hm.cell (p := ⟨b', _, none⟩) hb' hnb).trans (hcc k hlt 0 (by omega))
        have c1 := (hm.cell (p := ⟨b', _, none⟩) hb' hnb).trans (hcc k hlt 1 (by omega))
        have c2 := (hm.cell (p := ⟨b', _, none⟩) hb' hnb).trans (hcc k hlt 2 (by omega))
        have c3 := (hm.cell (p := ⟨b', _, none⟩) hb' hnb).trans (hcc k hlt 3 (by omega))
        have c4 := (hm.cell (p := ⟨b', _, none⟩) hb' hnb).trans (hcc k hlt 4 (by omega))
        rw [atl_get hx (v := .int .i64 x.pid) rfl] at c0
        rw [atl_get hx (v := .int .i64 x.slot) rfl] at c1
        rw [atl_get hx (v := .int .i64 x.kind) rfl] at c2
        rw [atl_get hx (v := .int .i64 x.obj) rfl] at c3
        rw [atl_get hx (v := .int .i64 x.off) rfl] at c4
        simp only [Nat.add_zero] at c0
        have ba := alloc_below wr (.cells (da x) 26)
        have hd2 := hd.quiet ba
        have hsz := hm.size
        cases hp : isP p x
        · have hn := isP_no hx hp
          have HX := Lib.hid hn
          have hm2 := hm.alloc (.cells (da x) 26)
          have d9 : (x.pid == p) = false := hp
          clear hcc hc hx hn hp ba hd g1 k0 HH h1 hnb
          obtain ⟨y1, y2, y3, y4, y5⟩ := x
          unfold da at *
          simp only at *
          go_wp2
          go_roundw
          case rel => exact ⟨k + 1, by omega, by go_num, by rw [HX.out]; exact hd2, hm2⟩
          case measure => simp [intOf]; omega
        · have hn := isP_yes hx hp
          have hn2 : forkF c l ((l.take (k + 1)).filter (isP p)) = insL (forkF c l ((l.take k).filter (isP p))) (setp c x) := by rw [hn, fork_snoc]
          have HX := Lib.hid hn2
          have d9 : (x.pid == p) = true := hp
          have hI := rins1 _ B rb _ (setp c x) hd2 (Nat.le_trans (HN.out k) (by omega)) (by simp; omega)
          have HI := Lib.hid hI
          have hm2 := hm.alloc (.cells (da x) 26)
          clear hcc hc hx hn hp ba hd g1 k0 HH h1 hnb hI hn2 hd2
          obtain ⟨y1, y2, y3, y4, y5⟩ := x
          unfold da setp at *
          simp only at *
          go_wp2_with fail
          refine HI.out.mono ?_
          rintro e w5 ⟨rfl, h5, m5⟩
          have m6 := hm2.trans m5 (fun i _ h => h)
          clear HI
          go_wp2
          go_roundw
          case rel => exact ⟨k + 1, by omega, by go_num, by rw [HX.out]; exact h5, m6⟩
          case measure => simp [intOf]; omega
      · obtain rfl : k = l.length := by omega
        rw [List.take_length] at hd
        clear hc
        go_wp2
        go_ret
        exact ⟨rfl, hd, hm.mono (fun i _ e => .inl e)⟩
end Go.Proofs.Ytidmkdaegglepaa
