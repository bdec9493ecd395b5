/- Walks over the pipes, 3. -/
import Derived.Test.YtjibphpkebcoeaaA2
import Derived.Lib.Hide
set_option linter.all false
namespace Go.Proofs.Ytjibphpkebcoeaa
open Go.RowKit

def infoAt (s : PS) (i : Nat) : List Value := match s i with | none => [] | some (_, d) => [.int .i64 i, .string d]
def cntAt (s : PS) (i : Nat) : Nat := match s i with | none => 0 | some _ => 1
def infos (s : PS) : Nat → List Value
  | 0 => []
  | k + 1 => infos s k ++ infoAt s k
def cnts (s : PS) : Nat → Nat
  | 0 => 0
  | k + 1 => cnts s k + cntAt s k
theorem cnts_le (s : PS) : ∀ k, cnts s k ≤ k
  | 0 => Nat.le_refl _
  | k + 1 => by have := cnts_le s k; simp only [cnts, cntAt]; split <;> omega

theorem idxk (s : PS) (k : Nat) (hk : k < 3) (v : Value) (hv : pv (s k) = v) (w : World) : (Instr.index 79 (.agg #[pv (s 0), pv (s 1), pv (s 2)]) (.int .i64 k)).run Try.prog w = .ok v w := by
  subst hv
  match k, hk with
  | 0, _ => exact idx0 _ _ _ _
  | 1, _ => exact idx1 _ _ _ _
  | 2, _ => exact idx2 _ _ _ _

theorem Try.info74 : (Try.prog.info? 74).map (fun i => (i.zero, i.size, i.bytes)) = some (some (.agg #[.int .i64 0, .string ByteArray.empty]), 2, 24) := by kernel_rfl

set_option maxHeartbeats 400000 in
theorem list_nil (w : World) :
    Calls Try.prog 34 #[.pointer none] w fun e w' => e = .returned (.slice none 0 0) ∧ w = w' := by
  go_enter Try.func34, Try.ntmps34
  go_wp2
  go_ret
  exact ⟨rfl, rfl⟩

set_option maxHeartbeats 800000 in
set_option maxRecDepth 100000 in
theorem list_any (s : PS) (b : Nat) (w : World) (hb : Blk w b 81 #[pv (s 0), pv (s 1), pv (s 2)])
    (hd : ∀ i, i < 3 → ∀ c d, s i = some (c, d) → c < w.heap.size ∧ w.cell? ⟨c, 0, none⟩ = some (.string d)) :
    Calls Try.prog 34 #[.pointer (some ⟨b, 0, none⟩)] w fun e w' => ∃ v, e = .returned v ∧ w'.ownsRow w.heap.size 74 2 v (cnts s 3) (infos s 3) ∧ Below w.heap.size w w' := by
  obtain ⟨i0, hi, hz0, hz1, hz2⟩ := info_parts Try.info74
  have k0 := hb.cell 0
  have k1 := hb.cell 1
  have k2 := hb.cell 2
  simp at k0 k1 k2
  have hl := hb.lt
  go_enter Try.func34, Try.ntmps34
  go_wp2
  go_loopw [3, 12] (fun v i wr => ∃ k : Nat, k ≤ 3 ∧ i = .int .i64 k ∧ wr.ownsRow w.heap.size 74 2 v (cnts s k) (infos s k) ∧ Below w.heap.size w wr) (fun _ i _ => 3 - (intOf i).toNat)
  case atStart => exact ⟨0, by omega, rfl, World.ownsRow_nil _ _ _ _, Below.refl _ _⟩
  case round =>
    obtain ⟨k, hk, rfl, hown, hbel⟩ := hrel
    have hcl := cnts_le s k
    have hsz := hbel.size
    by_cases hlt : k < 3
    · rcases e : s k with _ | ⟨c, d⟩
      · have hix := idxk s k hlt (.pointer none) (by rw [e]; rfl)
        have hown' : wr.ownsRow w.heap.size 74 2 u3 (cnts s (k + 1)) (infos s (k + 1)) := by simpa [cnts, infos, cntAt, infoAt, e] using hown
        clear e hd hown
        go_wp2
        go_roundw
        case rel => exact ⟨k + 1, by omega, by go_num, hown', hbel⟩
        case measure => simp [intOf]; omega
      · have hix := idxk s k hlt (.pointer (some ⟨c, 0, none⟩)) (by rw [e]; rfl)
        obtain ⟨hc, hcell⟩ := hd k hlt c d e
        have hcell' := (hbel.cell (p := ⟨c, 0, none⟩) hc).trans hcell
        have hE := Lib.hid e
        clear e hd hcell
        go_wp2_with (at_builtin; refine wpList_append_own _ rfl (.tmp 18) (.tmp 25) 66 rfl w.heap.size 74 i0 _ 2 24 Try.underlying66 hi hz0 hz1 hz2 rfl (by decide) _ _ _ rfl (hown.alloc _) ⟨wr.heap.size, 0, none⟩ 1 1 [.int .i64 k, .string d] rfl rfl ?c1 ?c2 ?c3 ?c4 ?c5 ?_)
        case c1 => exact news_new _ _ _
        case c2 => intro u hu; simp at hu; rcases hu with rfl | rfl <;> rfl
        case c3 => unfold maxLen; omega
        case c4 => omega
        case c5 => simp; omega
        intro v' w1 hown1 hgrow _
        have hbel1 : Below w.heap.size w w1 := (hbel.alloc hsz _).grown hgrow (by simp; omega) (fun g hg => (hown.lt g hg).1)
        clear hown hix hcell' hgrow
        go_wp2
        go_roundw
        case rel => exact ⟨k + 1, by omega, by go_num, by simpa [cnts, infos, cntAt, infoAt, hE.out] using hown1, hbel1⟩
        case measure => simp [intOf]; omega
    · obtain rfl : k = 3 := by omega
      clear hd
      go_wp2
      go_ret
      exact ⟨_, rfl, hown, hbel⟩
end Go.Proofs.Ytjibphpkebcoeaa
