/- Open objects: Opens. -/
import Derived.Test.YtidmkdaegglepaaO9
import Derived.Deep.AppendLies
set_option linter.all false
namespace Go.Proofs.Ytidmkdaegglepaa
open Go.RowKit

attribute [local go_sem ↓] guard_pq guard_pq_nil eql_pq_nil neq_pq_nil
theorem Try.info81 : (Try.prog.info? 81).map (fun i => (i.zero, i.size, i.bytes)) = some (some (.agg #[.int .i64 0, .int .i64 0, .int .i64 0, .int .i64 0]), 4, 32) := by kernel_rfl
theorem Try.und109 : Try.prog.underlying 109 = some (.array 36 106) := by kernel_rfl
/-- All open objects. -/
def oL (ob : Nat → Option OB) (k : Nat) : List (Nat × OB) := (List.range k).filterMap fun d => (ob d).map fun o => (d, o)
def o4 (x : Nat × OB) : List Value := [.int .i64 (x.1 : Int), .int .i64 x.2.kind, .int .i64 x.2.obj, .int .i64 x.2.off]
theorem o4_len (x : Nat × OB) : (o4 x).length = 4 := rfl
theorem oL_none {ob : Nat → Option OB} {k : Nat} (h : ob k = none) : oL ob (k + 1) = oL ob k := by
  unfold oL
  rw [List.range_succ, List.filterMap_append]
  simp [h]
theorem oL_some {ob : Nat → Option OB} {k : Nat} {o : OB} (h : ob k = some o) : oL ob (k + 1) = oL ob k ++ [(k, o)] := by
  unfold oL
  rw [List.range_succ, List.filterMap_append]
  simp [h]
theorem oL_len (ob : Nat → Option OB) (k : Nat) : (oL ob k).length ≤ k := by
  unfold oL
  refine Nat.le_trans (List.length_filterMap_le _ _) ?_
  simp
def row36 (f : Nat → Option Nat) : List Value := (List.range 36).map fun j => pq (f j)
theorem row36_get (f : Nat → Option Nat) {j : Nat} (h : j < 36) : (row36 f)[j]? = some (pq (f j)) := by simp [row36, h]
theorem OT.obr {w : World} {B b : Nat} {sl : Nat → Option Nat} {ob : Nat → Option OB} {ad : Nat → Nat} (h : OT w B b sl ob ad) : w.rangeAt b 42 (row36 fun j => (ob j).map fun _ => ad j) := by
  intro j v hv
  have hj : j < 36 := by
    have := (List.getElem?_eq_some_iff.1 hv).1
    simpa [row36] using this
  rw [row36_get _ hj] at hv
  cases hv
  have := h.cell (i := 42 + j) (by omega)
  unfold tf at this
  rw [if_neg (by omega), show 42 + j - 42 = j by omega] at this
  exact this
set_option maxHeartbeats 1600000 in
theorem oopens_nil (w : World) : Calls Try.prog 44 #[.pointer none] w fun e w' => e = .returned (.slice none 0 0) ∧ w = w' := by
  go_enter Try.func44, Try.ntmps44
  go_wp2
  go_ret
  exact ⟨rfl, rfl⟩
set_option maxHeartbeats 6400000 in
set_option maxRecDepth 100000 in
theorem oopens_any (w : World) (B b : Nat) (S : OS) (ad : Nat → Nat) (h : OW w B b S ad) :
    Calls Try.prog 44 #[.pointer (some ⟨b, 0, none⟩)] w fun e w' => ∃ v, e = .returned v ∧ w'.ownsRow w.heap.size 81 4 v (oL S.ob 36).length ((oL S.ob 36).flatMap o4) ∧ Below w.heap.size w w' := by
  obtain ⟨i0, hi, hz0, hz1, hz2⟩ := info_parts Try.info81
  have hr := h.obr
  have hI : ∀ (u : World) (j : Nat), j < 36 → (Instr.index 109 (.agg (row36 fun j => (S.ob j).map fun _ => ad j).toArray) (.int .i64 (j : Int))).run Try.prog u = .ok (pq ((S.ob j).map fun _ => ad j)) u :=
    fun u j hj => idx1 Try.und109 _ hj (by simpa using row36_get _ hj) u
  have hsz : (Try.prog.info? 109).map (·.size) = some (row36 fun j => (S.ob j).map fun _ => ad j).length := by
    simp only [row36, List.length_map, List.length_range]
    kernel_rfl
  generalize (row36 fun j => (S.ob j).map fun _ => ad j) = rw36 at *
  have HI := Lib.hid hI
  have HH := Lib.hid h
  clear hI h
  go_enter Try.func44, Try.ntmps44
  go_wp2_with (refine wpList_load_mid rfl 109 _ rfl b 42 rfl rw36 _ hr Try.und109 rfl hsz ?_)
  go_loopw [3, 12] (fun v i wr => ∃ k : Nat, k ≤ 36 ∧ i = .int .i64 k ∧ wr.ownsRow w.heap.size 81 4 v (oL S.ob k).length ((oL S.ob k).flatMap o4) ∧ Below w.heap.size w wr) (fun _ i _ => 36 - (intOf i).toNat)
  case atStart => exact ⟨0, by omega, rfl, World.ownsRow_nil _ _ _ _, Below.refl _ _⟩
  case round =>
    obtain ⟨k, hk, rfl, hown, hbel⟩ := hrel
    have hszw := hbel.size
    have hlen := oL_len S.ob k
    by_cases hlt : k < 36
    · have d0 : decide ((k : Int) < 36) = true := by simp; omega
      have I := HI.out wr k hlt
      rcases e : S.ob k with _ | o
      · have hn := oL_none e
        have HN := Lib.hid hn
        rw [e] at I
        simp only [Option.map_none] at I
        clear hn e hr
        go_wp2
        go_roundw
        case rel => exact ⟨k + 1, by omega, by go_num, by rw [HN.out]; exact hown, hbel⟩
        case measure => simp [intOf]; omega
      · have hn := oL_some e
        have HN := Lib.hid hn
        rw [e] at I
        simp only [Option.map_some] at I
        have hb := ((OT.quiet HH.out hbel).obs k o hlt e).2
        have c0 := hb.drew.cell 0
        have c1 := hb.drew.cell 1
        have c2 := hb.drew.cell 2
        unfold oc at c0 c1 c2
        simp at c0 c1 c2
        have hlb := hb.lt
        have HB := Lib.hid hb
        clear hn e hr hb
        generalize oL S.ob k = u at *
        unfold pq at I
        have hne : u3.ownBlock ≠ some (ad k) := by
          intro q
          rcases hown.2 with ⟨q1, _⟩ | ⟨g, cap, cur, q1, _, q2, _⟩
          · rw [q1] at q; cases q
          · rw [q1] at q
            cases q
            have hcur : Blk wr (ad k) 81 cur := q2
            exact (HB.out.ne_ hcur (by decide)) rfl
        have hn63 : u.length + 1 ≤ maxLen := by unfold maxLen; omega
        have hnb : (u.length + 1) * 32 ≤ 140737488355328 := by omega
        go_wp2_with fail
        go_region_held3 (fun w' => w'.cell? ⟨ad k, 0, none⟩ = some (.int .i64 o.kind) ∧ w'.cell? ⟨ad k, 1, none⟩ = some (.int .i64 o.obj) ∧ w'.cell? ⟨ad k, 2, none⟩ = some (.int .i64 o.off))
          (first
            | exact ⟨c0, c1, c2⟩
            | go_keep
            | (go_split_ands
               refine ⟨?_, ?_, ?_⟩
               · (rw [hgrow.cell_far _ (by simp; omega) (Ne.symm hne)]; assumption)
               · (rw [hgrow.cell_far _ (by simp; omega) (Ne.symm hne)]; assumption)
               · (rw [hgrow.cell_far _ (by simp; omega) (Ne.symm hne)]; assumption)))
          ((refine step_append_lies _ (by rfl) _ _ _ (by rfl) w.heap.size 81 i0 _ 4 32 Try.underlying78 hi hz0 hz1 hz2 rfl (by omega) u3 u.length _ (by rfl) ((hown.alloc _).drew)
              ⟨wr.heap.size, 0, none⟩ 1 1 [.int .i64 (k : Int), .int .i64 o.kind, .int .i64 o.obj, .int .i64 o.off] (by rfl) (by rfl) (World.news_of_block (cs := #[.int .i64 (k : Int), .int .i64 o.kind, .int .i64 o.obj, .int .i64 o.off]) (t := 81) (fr := (0, 0)) (heap_alloc_new wr _)) (by simp [Value.oneCell'])
              (by omega) hn63 hnb (by simp; omega) (wr.heap.size + 1) (by simp) ?_; intro gg cap w1 hown1 hgrow hat hlt))
        have hbel3 : Below w.heap.size w w1 := ((hbel.alloc hszw _).drew).grown hgrow (by simp; omega) (fun g hg => (hown.lt g hg).1)
        have hown4 : w1.ownsRow w.heap.size 81 4 (.slice (some ⟨gg, 0, none⟩) (u.length + 1) cap) (oL S.ob (k + 1)).length ((oL S.ob (k + 1)).flatMap o4) := by
          rw [HN.out, List.flatMap_append, List.length_append]
          simpa [o4] using hown1
        clear hown hown1 hgrow hat hlt c0 c1 c2 hbel
        go_wp2
        go_roundw
        case rel => exact ⟨k + 1, by omega, by go_num, hown4, hbel3⟩
        case measure => simp [intOf]; omega
    · obtain rfl : k = 36 := by omega
      obtain ⟨a', c', rfl⟩ := len_of_own hown
      clear hr HI HH
      go_wp2
      go_ret
      exact ⟨_, rfl, hown, hbel⟩
end Go.Proofs.Ytidmkdaegglepaa
