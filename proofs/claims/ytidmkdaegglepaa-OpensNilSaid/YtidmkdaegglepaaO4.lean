/- Open objects: name, whole; Get, Close, Dup, Dup2. -/
import Derived.Test.YtidmkdaegglepaaO3
set_option linter.all false
namespace Go.Proofs.Ytidmkdaegglepaa
open Go.RowKit

attribute [local go_sem ↓] guard_pq guard_pq_nil eql_pq_nil neq_pq_nil
theorem name_any (w : World) (B b : Nat) (sl : Nat → Option Nat) (ob : Nat → Option OB) (ad : Nat → Nat) (i : Nat) (x : Option Nat) (h : OT w B b sl ob ad) (hi : i < 42) (h6 : 6 ≤ i)
    (hx : ∀ d, x = some d → d < 36 ∧ ∃ o, ob d = some o) :
    Calls Try.prog 79 #[.pointer (some ⟨b, 0, none⟩), .pointer (some ⟨b, i, none⟩), pq (x.map ad)] w (NameR w B b (upd sl i x) (obN sl ob i x) ad) := by
  cases x with
  | none =>
    rcases h0 : sl i with _ | d
    · exact name_nn w B b sl ob ad i h hi h6 h0
    · by_cases hz : cnt sl d = 1
      · exact name_ns0 w B b sl ob ad i d ⟨0, 0, 0⟩ h hi h6 h0 hz
      · exact name_ns1 w B b sl ob ad i d ⟨0, 0, 0⟩ h hi h6 h0 hz
  | some x =>
    obtain ⟨hx1, o, ho⟩ := hx x rfl
    rcases h0 : sl i with _ | d
    · exact name_sn w B b sl ob ad i x o h hi h6 h0 hx1 ho
    · by_cases e : d = x
      · subst e
        exact name_same w B b sl ob ad i d o h hi h6 h0 hx1 ho
      · by_cases hz : cnt sl d = 1
        · exact name_ss0 w B b sl ob ad i x d o ⟨0, 0, 0⟩ h hi h6 h0 hx1 ho e hz
        · exact name_ss1 w B b sl ob ad i x d o ⟨0, 0, 0⟩ h hi h6 h0 hx1 ho e hz
theorem ok_ix {p s : Int} (h : okS p s = true) : sIx p s < 42 ∧ 6 ≤ sIx p s ∧ 1 ≤ p ∧ p ≤ 6 ∧ 0 ≤ s ∧ s < 6 := by
  unfold okS procB withB at h
  simp at h
  unfold sIx
  omega
theorem lk_some {sl : Nat → Option Nat} {p s : Int} {d : Nat} (h : lk sl p s = some d) : okS p s = true ∧ sl (sIx p s) = some d := by
  unfold lk at h
  split at h
  · rename_i ho; exact ⟨ho, h⟩
  · cases h
/-- What stands in a slot. -/
def oE (sl : Nat → Option Nat) (ob : Nat → Option OB) (p s : Int) : Option DE := (lk sl p s).bind fun d => (ob d).map fun o => ⟨p, s, o.kind, o.obj, o.off⟩
def ogV (sl : Nat → Option Nat) (ob : Nat → Option OB) (p s : Int) : DE := (oE sl ob p s).getD dz
def ogE (sl : Nat → Option Nat) (p s : Int) : Int := if (lk sl p s).isSome then 0 else 6
theorem OT.obj {w : World} {B b : Nat} {sl : Nat → Option Nat} {ob : Nat → Option OB} {ad : Nat → Nat} (h : OT w B b sl ob ad) {p s : Int} {d : Nat} (hl : lk sl p s = some d) :
    ∃ o, d < 36 ∧ ob d = some o ∧ Blk w (ad d) 114 (oc o (cnt sl d)) := by
  obtain ⟨ho, hs⟩ := lk_some hl
  obtain ⟨hd, o, hob⟩ := h.val _ d (ok_ix ho).1 hs
  exact ⟨o, hd, hob, (h.obs d o hd hob).2⟩
set_option maxHeartbeats 3200000 in
set_option maxRecDepth 100000 in
theorem oget_none (w : World) (q : Value) (p s : Int) (hO : ∀ u, Below w.heap.size w u → Calls Try.prog 74 #[q, .int .i64 p, .int .i64 s] u fun e w' => e = .returned (.pointer none) ∧ u = w') :
    Calls Try.prog 40 #[q, .int .i64 p, .int .i64 s] w fun e w' => e = .returned (.tuple #[.agg (da dz), .int .i64 6]) ∧ Below w.heap.size w w' := by
  have b0 := alloc_below w (.cells (da dz) 23)
  have HO := Lib.hid (hO _ b0)
  have hN := Blk.new w 23 (da dz)
  clear hO
  unfold da at *
  simp only [dz] at *
  have c0 := hN.cell 0
  have c1 := hN.cell 1
  have c2 := hN.cell 2
  have c3 := hN.cell 3
  have c4 := hN.cell 4
  have f0 := hN.frozen 0
  have f1 := hN.frozen 1
  have f2 := hN.frozen 2
  have f3 := hN.frozen 3
  have f4 := hN.frozen 4
  simp at c0 c1 c2 c3 c4
  go_enter Try.func40, Try.ntmps40
  go_wp2_with fail
  refine HO.out.mono ?_
  rintro e w1 ⟨rfl, rfl⟩
  go_wp2
  exact res_cell2 rfl rfl (blk0 w 23 _) Try.underlying23 (by kernel_rfl) rfl ⟨rfl, b0⟩
set_option maxHeartbeats 3200000 in
set_option maxRecDepth 100000 in
theorem oget_some (w : World) (B b : Nat) (sl : Nat → Option Nat) (ob : Nat → Option OB) (ad : Nat → Nat) (p s : Int) (d : Nat) (h : OT w B b sl ob ad) (hl : lk sl p s = some d) (o : OB) (ho : ob d = some o) :
    Calls Try.prog 40 #[.pointer (some ⟨b, 0, none⟩), .int .i64 p, .int .i64 s] w fun e w' => e = .returned (.tuple #[.agg (da ⟨p, s, o.kind, o.obj, o.off⟩), .int .i64 0]) ∧ Below w.heap.size w w' := by
  have b0 := (alloc_below w (.cells (da dz) 23))
  have h0 := h.quiet b0
  have hO := oof_any _ B b sl ob ad p s h0
  rw [hl] at hO
  have hN := (Blk.new w 23 (da dz)).drew
  obtain ⟨o', hd, ho', hb⟩ := (h.quiet b0.drew).obj hl
  rw [ho] at ho'
  cases ho'
  have k0 := hb.cell 0
  have k1 := hb.cell 1
  have k2 := hb.cell 2
  have c0 := hN.cell 0
  have c1 := hN.cell 1
  have c2 := hN.cell 2
  have c3 := hN.cell 3
  have c4 := hN.cell 4
  have f0 := hN.frozen 0
  have f1 := hN.frozen 1
  have f2 := hN.frozen 2
  have f3 := hN.frozen 3
  have f4 := hN.frozen 4
  unfold da oc pq at *
  simp only [dz] at *
  simp at c0 c1 c2 c3 c4 k0 k1 k2
  simp only [Option.map_some] at hO
  have HO := Lib.hid hO
  have b9 := (alloc_below w (.cells #[.int .i64 p, .int .i64 s, .int .i64 o.kind, .int .i64 o.obj, .int .i64 o.off] 23)).drew
  have HB := Lib.hid (Blk.new w 23 #[.int .i64 p, .int .i64 s, .int .i64 o.kind, .int .i64 o.obj, .int .i64 o.off]).drew
  have HB2 := Lib.hid b9
  obtain ⟨o', hd', ho', hbf⟩ := (h.quiet b9).obj hl
  rw [ho] at ho'
  cases ho'
  unfold oc at hbf
  have HBF := Lib.hid hbf
  clear hO h h0 hb hN hl ho b0 hbf b9 c0 c1 c2 c3 c4
  go_enter Try.func40, Try.ntmps40
  go_wp2_with fail
  refine HO.out.mono ?_
  rintro e w1 ⟨rfl, rfl⟩
  clear HO
  go_wp2_with fail
  go_region_held3 (fun w' => w'.cell? ⟨ad d, 0, none⟩ = some (.int .i64 o.kind) ∧ w'.cell? ⟨ad d, 1, none⟩ = some (.int .i64 o.obj) ∧ w'.cell? ⟨ad d, 2, none⟩ = some (.int .i64 o.off))
    (first | exact ⟨k0, k1, k2⟩ | exact ⟨HBF.out.cell 0, HBF.out.cell 1, HBF.out.cell 2⟩)
    (fail)
  all_goals
    clear f0 f1 f2 f3 f4 k0 k1 k2
    go_wp2
    exact res_cell2 rfl rfl HB.out Try.underlying23 (by kernel_rfl) rfl ⟨rfl, HB2.out⟩
end Go.Proofs.Ytidmkdaegglepaa
