/- The reference's descriptors: left. -/
import Derived.Test.YtidmkdaegglepaaQ5
set_option linter.all false
namespace Go.Proofs.Ytidmkdaegglepaa
open Go.RowKit

def keepD (p s : Int) (x : DE) : Bool := x.pid != p || (decide (0 ≤ s) && x.slot != s)
def leftL (l : List DE) (p s : Int) : List DE := l.filter (keepD p s)
theorem left_yes {l : List DE} {p s : Int} {j : Nat} {x : DE} (h : l[j]? = some x) (hk : keepD p s x = true) : leftL (l.take (j + 1)) p s = leftL (l.take j) p s ++ [x] := by
  unfold leftL
  rw [take_snoc_list h, List.filter_append]
  simp [hk]
theorem left_no {l : List DE} {p s : Int} {j : Nat} {x : DE} (h : l[j]? = some x) (hk : keepD p s x = false) : leftL (l.take (j + 1)) p s = leftL (l.take j) p s := by
  unfold leftL
  rw [take_snoc_list h, List.filter_append]
  simp [hk]
theorem left_len (l : List DE) (p s : Int) : (leftL l p s).length ≤ l.length := List.length_filter_le _ _
set_option maxHeartbeats 6400000 in
set_option maxRecDepth 100000 in
theorem rleft (w : World) (B rb : Nat) (l : List DE) (p s : Int) (h : RT w B rb l) (hl : l.length ≤ 1000) :
    Calls Try.prog 85 #[.pointer (some ⟨rb, 0, none⟩), .int .i64 p, .int .i64 s] w fun e w' => ∃ v, e = .returned v ∧ w'.ownsRow w.heap.size 26 5 v (leftL l p s).length ((leftL l p s).flatMap dc) ∧ Below w.heap.size w w' := by
  obtain ⟨i0, hi, hz0, hz1, hz2⟩ := info_parts Try.info26
  obtain ⟨_, v, hb, hown0⟩ := h
  have k0 := hb.cell 0
  simp at k0
  have hin := own_inp dc_len hown0 rfl (by unfold maxLen; omega)
  obtain ⟨_, a, cap, rfl, hc⟩ := hin
  clear hown0 hb
  go_enter Try.func85, Try.ntmps85
  go_wp2_with fail
  go_loopw [7, 15] (fun v i wr => ∃ j : Nat, j ≤ l.length ∧ i = .int .i64 j ∧ wr.ownsRow w.heap.size 26 5 v (leftL (l.take j) p s).length ((leftL (l.take j) p s).flatMap dc) ∧ Below w.heap.size w wr) (fun _ i _ => l.length - (intOf i).toNat)
  case atStart => exact ⟨0, by omega, rfl, World.ownsRow_nil _ _ _ _, Below.refl _ _⟩
  case round =>
    obtain ⟨j, hj, rfl, hown, hbel⟩ := hrel
    have hsz := hbel.size
    have hcl := left_len (l.take j) p s
    rw [List.length_take] at hcl
    by_cases hlt : j < l.length
    · obtain ⟨b, off, rfl, hb, hcc⟩ := hc (by omega)
      have hx : l[j]? = some (l[j]'hlt) := List.getElem?_eq_getElem hlt
      generalize l[j]'hlt = x at hx
      have c0 := (hbel.cell (p := ⟨b, _, none⟩) hb).trans (hcc j hlt 0 (by omega))
      have c1 := (hbel.cell (p := ⟨b, _, none⟩) hb).trans (hcc j hlt 1 (by omega))
      have c2 := (hbel.cell (p := ⟨b, _, none⟩) hb).trans (hcc j hlt 2 (by omega))
      have c3 := (hbel.cell (p := ⟨b, _, none⟩) hb).trans (hcc j hlt 3 (by omega))
      have c4 := (hbel.cell (p := ⟨b, _, none⟩) hb).trans (hcc j hlt 4 (by omega))
      rw [atl_get hx (v := .int .i64 x.pid) rfl] at c0
      rw [atl_get hx (v := .int .i64 x.slot) rfl] at c1
      rw [atl_get hx (v := .int .i64 x.kind) rfl] at c2
      rw [atl_get hx (v := .int .i64 x.obj) rfl] at c3
      rw [atl_get hx (v := .int .i64 x.off) rfl] at c4
      simp only [Nat.add_zero] at c0
      have HY := Lib.hid (fun hk => left_yes (p := p) (s := s) hx hk)
      have HNo := Lib.hid (fun hk => left_no (p := p) (s := s) hx hk)
      have hk : keepD p s x = (x.pid != p || (decide (0 ≤ s) && x.slot != s)) := rfl
      have HK := Lib.hid hk
      clear hcc hc hx hk
      obtain ⟨y1, y2, y3, y4, y5⟩ := x
      simp only at c0 c1 c2 c3 c4
      generalize leftL (l.take j) p s = u at *
      cases e1 : (y1 != p)
      · cases e2 : decide (0 ≤ s)
        · simp only [e1, e2] at HK
          have HN := Lib.hid (HNo.out (by rw [HK.out]; simp []))
          clear HY HNo HK
          have hown4 := hown.alloc (.cells #[.int .i64 y1, .int .i64 y2, .int .i64 y3, .int .i64 y4, .int .i64 y5] 26)
          clear hown
          go_wp2
          go_roundw
          case rel => exact ⟨j + 1, by omega, by go_num, by rw [HN.out]; exact hown4, hbel.alloc hsz _⟩
          case measure => simp [intOf]; omega
        · cases e3 : (y2 != s)
          · simp only [e1, e2, e3] at HK
            have HN := Lib.hid (HNo.out (by rw [HK.out]; simp []))
            clear HY HNo HK
            have hown4 := hown.alloc (.cells #[.int .i64 y1, .int .i64 y2, .int .i64 y3, .int .i64 y4, .int .i64 y5] 26)
            clear hown
            go_wp2
            go_roundw
            case rel => exact ⟨j + 1, by omega, by go_num, by rw [HN.out]; exact hown4, hbel.alloc hsz _⟩
            case measure => simp [intOf]; omega
          · simp only [e1, e2, e3] at HK
            have HN := Lib.hid (HY.out (by rw [HK.out]; simp []))
            clear HY HNo HK
            go_wp2_with (at_builtin; refine wpList_append_own _ rfl _ _ 33 rfl w.heap.size 26 i0 _ 5 40 Try.underlying33 hi hz0 hz1 hz2 rfl (by decide) _ _ _ rfl ((hown.alloc _).alloc _) ⟨wr.heap.size + 1, 0, none⟩ 1 1 (dc ⟨y1, y2, y3, y4, y5⟩) rfl rfl ?c1 ?c2 ?c3 ?c4 ?c5 ?_)
            case c1 => exact news_new2 _ _ _ _
            case c2 => intro u hu; simp [dc] at hu; rcases hu with rfl | rfl | rfl | rfl | rfl <;> rfl
            case c3 => unfold maxLen; omega
            case c4 => omega
            case c5 => simp; omega
            intro v' w2 hown3 hgrow _
            have hbel3 : Below w.heap.size w w2 := ((hbel.alloc hsz _).alloc (by simp; omega) _).grown hgrow (by simp; omega) (fun g hg => (hown.lt g hg).1)
            have hown4 : w2.ownsRow w.heap.size 26 5 v' (leftL (l.take (j + 1)) p s).length ((leftL (l.take (j + 1)) p s).flatMap dc) := by
              rw [HN.out, List.flatMap_append, List.length_append]
              simpa using hown3
            obtain ⟨a', c', rfl⟩ := len_of_own hown4
            clear hown hown3 hgrow
            go_wp2
            go_roundw
            case rel => exact ⟨j + 1, by omega, by go_num, hown4, hbel3⟩
            case measure => simp [intOf]; omega
      · simp only [e1] at HK
        have HN := Lib.hid (HY.out (by rw [HK.out]; simp []))
        clear HY HNo HK
        go_wp2_with (at_builtin; refine wpList_append_own _ rfl _ _ 33 rfl w.heap.size 26 i0 _ 5 40 Try.underlying33 hi hz0 hz1 hz2 rfl (by decide) _ _ _ rfl ((hown.alloc _).alloc _) ⟨wr.heap.size + 1, 0, none⟩ 1 1 (dc ⟨y1, y2, y3, y4, y5⟩) rfl rfl ?c1 ?c2 ?c3 ?c4 ?c5 ?_)
        case c1 => exact news_new2 _ _ _ _
        case c2 => intro u hu; simp [dc] at hu; rcases hu with rfl | rfl | rfl | rfl | rfl <;> rfl
        case c3 => unfold maxLen; omega
        case c4 => omega
        case c5 => simp; omega
        intro v' w2 hown3 hgrow _
        have hbel3 : Below w.heap.size w w2 := ((hbel.alloc hsz _).alloc (by simp; omega) _).grown hgrow (by simp; omega) (fun g hg => (hown.lt g hg).1)
        have hown4 : w2.ownsRow w.heap.size 26 5 v' (leftL (l.take (j + 1)) p s).length ((leftL (l.take (j + 1)) p s).flatMap dc) := by
          rw [HN.out, List.flatMap_append, List.length_append]
          simpa using hown3
        obtain ⟨a', c', rfl⟩ := len_of_own hown4
        clear hown hown3 hgrow
        go_wp2
        go_roundw
        case rel => exact ⟨j + 1, by omega, by go_num, hown4, hbel3⟩
        case measure => simp [intOf]; omega
    · obtain rfl : j = l.length := by omega
      rw [List.take_length] at hown
      obtain ⟨a', c', rfl⟩ := len_of_own hown
      clear hc
      go_wp2
      go_ret
      exact ⟨_, rfl, hown, hbel⟩
end Go.Proofs.Ytidmkdaegglepaa
