/- Descriptors: of, List. -/
import Derived.Test.YtidmkdaegglepaaM7
import Derived.Laws.AppendOwnNone
set_option linter.all false
namespace Go.Proofs.Ytidmkdaegglepaa
open Go.RowKit

theorem dc_len (x : DE) : (dc x).length = 5 := rfl
theorem Try.info23 : (Try.prog.info? 23).map (fun i => (i.zero, i.size, i.bytes)) = some (some (.agg #[.int .i64 0, .int .i64 0, .int .i64 0, .int .i64 0, .int .i64 0]), 5, 40) := by kernel_rfl
def pre (L : List DE) (p : Int) (k : Nat) : List DE := (slots.take k).filterMap (look L p)
theorem slots_at {k : Nat} (h : k < 6) : slots[k]? = some (k : Int) := by
  match k, h with
  | 0, _ => rfl
  | 1, _ => rfl
  | 2, _ => rfl
  | 3, _ => rfl
  | 4, _ => rfl
  | 5, _ => rfl
theorem pre_some {L : List DE} {p : Int} {k : Nat} {x : DE} (hk : k < 6) (h : look L p k = some x) : pre L p (k + 1) = pre L p k ++ [x] := by
  unfold pre
  rw [take_snoc_list (slots_at hk), List.filterMap_append]
  simp [h]
theorem pre_none {L : List DE} {p : Int} {k : Nat} (hk : k < 6) (h : look L p k = none) : pre L p (k + 1) = pre L p k := by
  unfold pre
  rw [take_snoc_list (slots_at hk), List.filterMap_append]
  simp [h]
theorem pre_all (L : List DE) (p : Int) : pre L p 6 = ofL L p := rfl
theorem pre_len (L : List DE) (p : Int) (k : Nat) : (pre L p k).length ≤ 6 := by
  unfold pre
  refine Nat.le_trans (List.length_filterMap_le _ _) ?_
  rw [List.length_take]
  exact Nat.min_le_right _ _
set_option maxHeartbeats 3200000 in
set_option maxRecDepth 100000 in
theorem of_any (w : World) (q : Value) (L : List DE) (p : Int) (h : DP w q L) :
    Calls Try.prog 63 #[q, .int .i64 p] w fun e w' => ∃ v, e = .returned v ∧ w'.ownsRow w.heap.size 23 5 v (ofL L p).length ((ofL L p).flatMap dc) ∧ Below w.heap.size w w' := by
  obtain ⟨i0, hi, hz0, hz1, hz2⟩ := info_parts Try.info23
  have hA := fun u s hu => at_any u q L p s hu
  unfold kc at hA
  have HA := Lib.hid hA
  clear hA
  go_enter Try.func63, Try.ntmps63
  go_wp2_with fail
  go_loopw [5, 9] (fun v i wr => ∃ k : Nat, k ≤ 6 ∧ i = .int .i64 k ∧ wr.ownsRow w.heap.size 23 5 v (pre L p k).length ((pre L p k).flatMap dc) ∧ Below w.heap.size w wr) (fun _ i _ => 6 - (intOf i).toNat)
  case atStart => exact ⟨0, by omega, rfl, World.ownsRow_nil _ _ _ _, Below.refl _ _⟩
  case round =>
    obtain ⟨k, hk, rfl, hown, hbel⟩ := hrel
    have hd := h.quiet hbel
    have hsz := hbel.size
    have hpl := pre_len L p k
    by_cases hlt : k < 6
    · have d0 : decide ((k : Int) < 6) = true := by simp; omega
      rcases hx : look L p k with _ | x
      · have hT := atB_none hx
        have hP := pre_none hlt hx
        have HT := Lib.hid hT
        have HP := Lib.hid hP
        clear hT hP hx
        go_wp2_with fail
        refine (HA.out wr k hd).mono ?_
        rintro e w1 ⟨rfl, b1⟩
        rw [HT.out.1, HT.out.2]
        have hb2 := b1.alloc b1.size (.cells (da dz) 23)
        have hown2 := ownsRow_mod hown (Mod.of_below hb2) (fun _ _ _ _ h => h)
        have hd2 := hd.quiet hb2
        have hbel2 := hbel.trans (hb2.mono hsz)
        unfold da at *
        simp only [dz] at *
        clear hown hd hbel b1 hb2
        go_wp2
        go_roundw
        case rel => exact ⟨k + 1, by omega, by go_num, by rw [HP.out]; exact hown2, hbel2⟩
        case measure => simp [intOf]; omega
      · have hT := atB_some hx
        have hP := pre_some hlt hx
        have HT := Lib.hid hT
        have HP := Lib.hid hP
        clear hT hP hx
        obtain ⟨y1, y2, y3, y4, y5⟩ := x
        go_wp2_with fail
        refine (HA.out wr k hd).mono ?_
        rintro e w1 ⟨rfl, b1⟩
        rw [HT.out.1, HT.out.2]
        have hb2 := b1.alloc b1.size (.cells (da ⟨y1, y2, y3, y4, y5⟩) 23)
        have hown2 := ownsRow_mod hown (Mod.of_below hb2) (fun _ _ _ _ h => h)
        have hd2 := hd.quiet hb2
        have hbel2 := hbel.trans (hb2.mono hsz)
        have hsz2 := hbel2.size
        unfold da at *
        simp only at *
        clear hown hd hbel b1 hb2
        go_wp2_with (at_builtin; refine wpList_append_own _ rfl _ _ 40 rfl w.heap.size 23 i0 _ 5 40 Try.underlying40 hi hz0 hz1 hz2 rfl (by decide) _ _ _ rfl (hown2.alloc _) ⟨w1.heap.size + 1, 0, none⟩ 1 1 (dc ⟨y1, y2, y3, y4, y5⟩) rfl rfl ?c1 ?c2 ?c3 ?c4 ?c5 ?_)
        case c1 => exact news_new2 _ _ _ _
        case c2 => intro u hu; simp [dc] at hu; rcases hu with rfl | rfl | rfl | rfl | rfl <;> rfl
        case c3 => unfold maxLen; omega
        case c4 => omega
        case c5 => simp at hsz2 ⊢; omega
        intro v' w2 hown3 hgrow _
        have hbel3 : Below w.heap.size w w2 := (hbel2.alloc hsz2 _).grown hgrow (by simp at hsz2 ⊢; omega) (fun g hg => (hown2.lt g hg).1)
        have hown4 : w2.ownsRow w.heap.size 23 5 v' (pre L p (k + 1)).length ((pre L p (k + 1)).flatMap dc) := by
          rw [HP.out, List.flatMap_append, List.length_append]
          simpa using hown3
        obtain ⟨a', c', rfl⟩ := len_of_own hown4
        clear hown2 hown3 hgrow hbel2
        go_wp2
        go_roundw
        case rel => exact ⟨k + 1, by omega, by go_num, hown4, hbel3⟩
        case measure => simp [intOf]; omega
    · obtain rfl : k = 6 := by omega
      rw [pre_all] at hown
      obtain ⟨a', c', rfl⟩ := len_of_own hown
      go_wp2
      go_ret
      exact ⟨_, rfl, hown, hbel⟩

def preP (L : List DE) : Nat → List DE
  | 0 => []
  | k + 1 => preP L k ++ ofL L ((k : Int) + 1)
theorem preP_all (L : List DE) : preP L 6 = allL L := by
  simp [preP, allL]
theorem of_len (L : List DE) (p : Int) : (ofL L p).length ≤ 6 := List.length_filterMap_le _ _
theorem preP_len (L : List DE) : ∀ k : Nat, (preP L k).length ≤ k * 6
  | 0 => by simp [preP]
  | k + 1 => by
    have h1 := preP_len L k
    have h2 := of_len L ((k : Int) + 1)
    rw [preP, List.length_append]
    omega
theorem flat5 (l : List DE) : (l.flatMap dc).length = l.length * 5 := flat_len dc_len l
theorem dc_ones {l : List DE} : ∀ u ∈ l.flatMap dc, u.oneCell' = true := by
  intro u hu
  obtain ⟨x, _, hx⟩ := List.mem_flatMap.1 hu
  simp [dc] at hx
  rcases hx with rfl | rfl | rfl | rfl | rfl <;> rfl
/-- A row of the call's own: its cells, read at its address. -/
theorem own_news {w : World} {B : Nat} {e : TypeId} {sz : Nat} {n : Nat} {xs : List Value} {a : Option Addr} {c : Nat} (h : w.ownsRow B e sz (.slice a n c) n xs) :
    (a = none ∧ n = 0 ∧ c = 0 ∧ xs = []) ∨ ∃ g, a = some ⟨g, 0, none⟩ ∧ ∀ (j : Nat) (u : Value), xs[j]? = some u → w.cell? ((⟨g, 0, none⟩ : Addr).add j) = some u := by
  have h1 := h.1
  rcases h.2 with ⟨hv, rfl⟩ | ⟨g, cap, cur, hv, _, hh, hc, _, hs, ht⟩
  · cases hv
    exact .inl ⟨rfl, rfl, rfl, List.eq_nil_of_length_eq_zero (by omega)⟩
  · cases hv
    refine .inr ⟨g, rfl, fun j u hj => ?_⟩
    have e : (⟨g, 0, none⟩ : Addr).add j = ⟨g, j, none⟩ := by
      unfold Addr.add
      split
      · subst_vars; rfl
      · simp
    rw [e, cell_of_row _ _ _ _ _ _ hh]
    rw [← ht, List.getElem?_take] at hj
    split at hj
    · rw [Array.getElem?_toList] at hj; exact hj
    · cases hj
theorem own_cap {w : World} {base : Nat} {e : TypeId} {size n : Nat} {v : Value} {xs : List Value} (h : w.ownsRow base e size v n xs) : ∀ a c, v = .slice a n c → n ≤ c ∧ c ≤ maxLen := by
  rintro a c rfl
  rcases h.2 with ⟨h1, rfl⟩ | ⟨g, cap, cur, h1, _, _, h2, h3, _⟩
  · cases h1; simp
  · cases h1; exact ⟨h2, h3⟩
set_option maxHeartbeats 3200000 in
set_option maxRecDepth 100000 in
theorem list_any (w : World) (q : Value) (L : List DE) (h : DP w q L) :
    Calls Try.prog 21 #[q] w fun e w' => ∃ v, e = .returned v ∧ w'.ownsRow w.heap.size 23 5 v (allL L).length ((allL L).flatMap dc) ∧ Below w.heap.size w w' := by
  obtain ⟨i0, hi, hz0, hz1, hz2⟩ := info_parts Try.info23
  go_enter Try.func21, Try.ntmps21
  go_wp2_with fail
  go_loopw [3, 4] (fun v i wr => ∃ k : Nat, k ≤ 6 ∧ i = .int .i64 ((k : Int) + 1) ∧ wr.ownsRow w.heap.size 23 5 v (preP L k).length ((preP L k).flatMap dc) ∧ Below w.heap.size w wr) (fun _ i _ => 7 - (intOf i).toNat)
  case atStart => exact ⟨0, by omega, by simp, World.ownsRow_nil _ _ _ _, Below.refl _ _⟩
  case round =>
    obtain ⟨k, hk, rfl, hown, hbel⟩ := hrel
    have hd := h.quiet hbel
    have hsz := hbel.size
    have hpl := preP_len L k
    by_cases hlt : k < 6
    · have d0 : decide ((k : Int) + 1 ≤ 6) = true := by simp; omega
      have hol := of_len L ((k : Int) + 1)
      go_wp2_with fail
      refine (of_any wr q L ((k : Int) + 1) hd).mono ?_
      rintro e w1 ⟨v1, rfl, hown1, b1⟩
      have hown2 := ownsRow_mod hown (Mod.of_below b1) (fun _ _ _ _ h => h)
      have hbel2 := hbel.trans (b1.mono hsz)
      have hsz2 := hbel2.size
      obtain ⟨a1, c1, rfl⟩ := len_of_own hown1
      clear hown hbel b1 hd
      rcases own_news hown1 with ⟨rfl, hn0, rfl, hx0⟩ | ⟨g1, rfl, hnews⟩
      · have hP : preP L (k + 1) = preP L k := by rw [preP, List.eq_nil_of_length_eq_zero hn0, List.append_nil]
        have HP := Lib.hid hP
        rw [hn0]
        clear hP hn0 hx0 hown1
        obtain ⟨a2, c2, rfl⟩ := len_of_own hown2
        rcases own_news hown2 with ⟨rfl, hn2, rfl, _⟩ | ⟨g2, rfl, _⟩
        · have HN2 := Lib.hid hn2
          rw [hn2] at hown2 ⊢
          clear hn2
          go_wp2
          go_roundw
          case rel => exact ⟨k + 1, by omega, by go_num, by rw [HP.out, HN2.out]; exact hown2, hbel2⟩
          case measure => simp [intOf]; omega
        · have hcap := (own_cap hown2 _ _ rfl).1
          go_wp2
          go_roundw
          case rel => exact ⟨k + 1, by omega, by go_num, by rw [HP.out]; exact hown2, hbel2⟩
          case measure => simp [intOf]; omega
      · have hP : preP L (k + 1) = preP L k ++ ofL L ((k : Int) + 1) := rfl
        have HP := Lib.hid hP
        have hfl := flat5 (ofL L ((k : Int) + 1))
        clear hP hown1
        go_wp2_with (at_builtin; refine wpList_append_own _ rfl _ _ 40 rfl w.heap.size 23 i0 _ 5 40 Try.underlying40 hi hz0 hz1 hz2 rfl (by decide) _ _ _ rfl hown2 ⟨g1, 0, none⟩ _ _ ((ofL L ((k : Int) + 1)).flatMap dc) rfl hfl hnews dc_ones ?c3 ?c4 hsz2 ?_)
        case c3 => unfold maxLen; omega
        case c4 => omega
        intro v' w2 hown3 hgrow _
        have hbel3 : Below w.heap.size w w2 := hbel2.grown hgrow hsz2 (fun g hg => (hown2.lt g hg).1)
        have hown4 : w2.ownsRow w.heap.size 23 5 v' (preP L (k + 1)).length ((preP L (k + 1)).flatMap dc) := by
          rw [HP.out, List.flatMap_append, List.length_append]
          exact hown3
        obtain ⟨a', c', rfl⟩ := len_of_own hown4
        clear hown2 hown3 hgrow hbel2 hnews
        go_wp2
        go_roundw
        case rel => exact ⟨k + 1, by omega, by go_num, hown4, hbel3⟩
        case measure => simp [intOf]; omega
    · obtain rfl : k = 6 := by omega
      rw [preP_all] at hown
      obtain ⟨a', c', rfl⟩ := len_of_own hown
      go_wp2
      go_ret
      exact ⟨_, rfl, hown, hbel⟩
end Go.Proofs.Ytidmkdaegglepaa
