/- The reference's descriptors: Insert. -/
import Derived.Test.YtidmkdaegglepaaQ1
set_option linter.all false
namespace Go.Proofs.Ytidmkdaegglepaa
open Go.RowKit

def gtD (x y : DE) : Bool := decide (x.pid < y.pid) || (y.pid == x.pid && decide (x.slot < y.slot))
theorem gtD_iff {x y : DE} : gtD x y = true ↔ (x.pid < y.pid ∨ (y.pid = x.pid ∧ x.slot < y.slot)) := by simp [gtD]
theorem ins_no (x : DE) (b : List DE) : ∀ a : List DE, (∀ m ∈ a, gtD x m = false) → insL (a ++ b) x = a ++ insL b x := by
  intro a
  induction a with
  | nil => intro _; rfl
  | cons y r ih =>
    intro h
    have h1 : ¬ (x.pid < y.pid ∨ (y.pid = x.pid ∧ x.slot < y.slot)) := fun h2 => by
      have := h y List.mem_cons_self
      rw [gtD_iff.2 h2] at this
      cases this
    show insL (y :: (r ++ b)) x = _
    rw [insL, if_neg h1, ih (fun m hm => h m (List.mem_cons_of_mem _ hm))]
    rfl
theorem ins_put (x y : DE) : ∀ a : List DE, (∃ m ∈ a, gtD x m = true) → insL (a ++ [y]) x = insL a x ++ [y] := by
  intro a
  induction a with
  | nil => rintro ⟨m, hm, _⟩; cases hm
  | cons z r ih =>
    intro h
    show insL (z :: (r ++ [y])) x = _
    rw [insL, insL]
    split
    · rfl
    · rename_i hz
      rw [ih]
      · rfl
      · obtain ⟨m, hm, hg⟩ := h
        rcases List.mem_cons.1 hm with rfl | hm
        · exact absurd (gtD_iff.1 hg) hz
        · exact ⟨m, hm, hg⟩
/-- The list built so far, and whether the new one is in it. -/
def outL (l : List DE) (x : DE) (j : Nat) : List DE := if (l.take j).any (gtD x) then insL (l.take j) x else l.take j
def flg (l : List DE) (x : DE) (j : Nat) : Bool := (l.take j).any (gtD x)
theorem flg_next {l : List DE} {x y : DE} {j : Nat} (h : l[j]? = some y) : flg l x (j + 1) = (flg l x j || gtD x y) := by
  unfold flg
  rw [take_snoc_list h, List.any_append]
  simp
theorem out_put {l : List DE} {x y : DE} {j : Nat} (h : l[j]? = some y) (hf : flg l x j = true) : outL l x (j + 1) = outL l x j ++ [y] ∧ flg l x (j + 1) = true := by
  have h2 : flg l x (j + 1) = true := by rw [flg_next h, hf]; rfl
  refine ⟨?_, h2⟩
  unfold outL
  unfold flg at hf h2
  rw [if_pos hf, if_pos h2, take_snoc_list h]
  obtain ⟨m, hm, hg⟩ := List.any_eq_true.1 hf
  exact ins_put x y _ ⟨m, hm, hg⟩
theorem out_ins {l : List DE} {x y : DE} {j : Nat} (h : l[j]? = some y) (hf : flg l x j = false) (hg : gtD x y = true) : outL l x (j + 1) = outL l x j ++ [x] ++ [y] ∧ flg l x (j + 1) = true := by
  have h2 : flg l x (j + 1) = true := by rw [flg_next h, hg, Bool.or_true]
  refine ⟨?_, h2⟩
  unfold outL
  unfold flg at hf h2
  rw [if_pos h2, if_neg (by rw [hf]; simp), take_snoc_list h, ins_no]
  · rw [insL, if_pos (gtD_iff.1 hg)]
    simp
  · intro m hm
    cases e : gtD x m
    · rfl
    · exact absurd (List.any_eq_true.2 ⟨m, hm, e⟩) (by rw [hf]; simp)
theorem out_no {l : List DE} {x y : DE} {j : Nat} (h : l[j]? = some y) (hf : flg l x j = false) (hg : gtD x y = false) : outL l x (j + 1) = outL l x j ++ [y] ∧ flg l x (j + 1) = false := by
  have h2 : flg l x (j + 1) = false := by rw [flg_next h, hf, hg]; rfl
  refine ⟨?_, h2⟩
  unfold outL
  unfold flg at hf h2
  rw [if_neg (by rw [h2]; simp), if_neg (by rw [hf]; simp), take_snoc_list h]
theorem out_end {l : List DE} {x : DE} : insL l x = if flg l x l.length then outL l x l.length else outL l x l.length ++ [x] := by
  unfold outL flg
  rw [List.take_length]
  split
  · rfl
  · rename_i hf
    have := ins_no x [] l (fun m hm => by
      cases e : gtD x m
      · rfl
      · exact absurd (List.any_eq_true.2 ⟨m, hm, e⟩) hf)
    rw [List.append_nil] at this
    rw [this]
    rfl
theorem out_len (l : List DE) (x : DE) (j : Nat) (hj : j ≤ l.length) : (outL l x j).length ≤ j + 1 := by
  have key : ∀ a : List DE, (insL a x).length = a.length + 1 := by
    intro a
    induction a with
    | nil => rfl
    | cons y r ih =>
      unfold insL
      split
      · simp
      · simp [ih]
  unfold outL
  split
  · rw [key, List.length_take]; omega
  · rw [List.length_take]; omega
set_option maxHeartbeats 6400000 in
set_option maxRecDepth 100000 in
theorem rins1 (w : World) (B rb : Nat) (l : List DE) (x : DE) (h : RT w B rb l) (hl : l.length ≤ 1000) (hB : B ≤ w.heap.size) :
    Calls Try.prog 33 #[.pointer (some ⟨rb, 0, none⟩), .agg (da x)] w fun e w' => e = .returned (.tuple #[]) ∧ RT w' B rb (insL l x) ∧ Mod (fun k => k = rb) w w' := by
  obtain ⟨i0, hi, hz0, hz1, hz2⟩ := info_parts Try.info26
  have hlow := h.low
  obtain ⟨_, v, hb, hown⟩ := h
  have hHB := Lib.hid hb
  have k0 := hb.cell 0
  simp at k0
  have hlb := hb.lt
  have hin := own_inp dc_len hown rfl (by unfold maxLen; omega)
  obtain ⟨_, a, cap, rfl, hc⟩ := hin
  have hbx := Blk.new w 26 (da x)
  have bb0 := alloc_below w (.cells (da x) 26)
  clear hown hb
  have hgt : ∀ y, gtD x y = (decide (x.pid < y.pid) || (y.pid == x.pid && decide (x.slot < y.slot))) := fun y => rfl
  have HG := Lib.hid hgt
  have hout : ∀ j, j ≤ l.length → (outL l x j).length ≤ j + 1 := fun j hj => out_len l x j hj
  have HO := Lib.hid hout
  clear hgt hout
  obtain ⟨x1, x2, x3, x4, x5⟩ := x
  unfold da at *
  simp only at hbx bb0 HG
  go_enter Try.func33, Try.ntmps33
  go_wp2_with fail
  go_loopw [4, 5, 13] (fun v f i wr => ∃ j : Nat, j ≤ l.length ∧ i = .int .i64 j ∧ f = .bool (flg l ⟨x1, x2, x3, x4, x5⟩ j) ∧ wr.ownsRow (w.heap.size + 1) 26 5 v (outL l ⟨x1, x2, x3, x4, x5⟩ j).length ((outL l ⟨x1, x2, x3, x4, x5⟩ j).flatMap dc) ∧ Below w.heap.size w wr ∧ Blk wr w.heap.size 26 #[.int .i64 x1, .int .i64 x2, .int .i64 x3, .int .i64 x4, .int .i64 x5] ∧ w.heap.size + 1 ≤ wr.heap.size) (fun _ _ i _ => l.length - (intOf i).toNat)
  case atStart => exact ⟨0, by omega, rfl, rfl, World.ownsRow_nil _ _ _ _, bb0, hbx, by simp⟩
  case round =>
    obtain ⟨j, hj, rfl, rfl, hown, hbel, hbw, hsz⟩ := hrel
    clear hbx bb0
    have hol := HO.out j hj
    by_cases hlt : j < l.length
    · obtain ⟨b, off, rfl, hb, hcc⟩ := hc (by omega)
      have hx : l[j]? = some (l[j]'hlt) := List.getElem?_eq_getElem hlt
      generalize l[j]'hlt = y at hx
      have c0 := (hbel.cell (p := ⟨b, _, none⟩) hb).trans (hcc j hlt 0 (by omega))
      have c1 := (hbel.cell (p := ⟨b, _, none⟩) hb).trans (hcc j hlt 1 (by omega))
      have c2 := (hbel.cell (p := ⟨b, _, none⟩) hb).trans (hcc j hlt 2 (by omega))
      have c3 := (hbel.cell (p := ⟨b, _, none⟩) hb).trans (hcc j hlt 3 (by omega))
      have c4 := (hbel.cell (p := ⟨b, _, none⟩) hb).trans (hcc j hlt 4 (by omega))
      rw [atl_get hx (v := .int .i64 y.pid) rfl] at c0
      rw [atl_get hx (v := .int .i64 y.slot) rfl] at c1
      rw [atl_get hx (v := .int .i64 y.kind) rfl] at c2
      rw [atl_get hx (v := .int .i64 y.obj) rfl] at c3
      rw [atl_get hx (v := .int .i64 y.off) rfl] at c4
      simp only [Nat.add_zero] at c0
      have hbw2 := hbw.alloc (.cells (da y) 26)
      have z0 := hbw2.cell 0
      have z1 := hbw2.cell 1
      have z2 := hbw2.cell 2
      have z3 := hbw2.cell 3
      have z4 := hbw2.cell 4
      simp at z0 z1 z2 z3 z4
      have HX := Lib.hid hx
      clear hcc hc hx
      have hsz2 : w.heap.size + 1 ≤ wr.heap.size + 1 := by omega
      have ba := hbel.alloc hbel.size (.cells (da y) 26)
      obtain ⟨y1, y2, y3, y4, y5⟩ := y
      unfold da at *
      simp only at c0 c1 c2 c3 c4 hbw2 z0 z1 z2 z3 z4 ba
      have hgy := HG.out ⟨y1, y2, y3, y4, y5⟩
      simp only at hgy
      cases hf : flg l ⟨x1, x2, x3, x4, x5⟩ j
      · cases hgv : gtD ⟨x1, x2, x3, x4, x5⟩ ⟨y1, y2, y3, y4, y5⟩
        · have hn := out_no HX.out hf hgv
          have HN := Lib.hid hn
          rw [hgv] at hgy
          have hgy' := hgy.symm
          clear hn hgy hf hgv
          generalize outL l ⟨x1, x2, x3, x4, x5⟩ j = u at *
          cases e1 : decide (x1 < y1)
          · cases e2 : (y1 == x1)
            · rw [e1, e2] at hgy'
              go_wp2_with (at_builtin; refine wpList_append_own _ rfl _ _ 33 rfl (w.heap.size + 1) 26 i0 _ 5 40 Try.underlying33 hi hz0 hz1 hz2 rfl (by decide) _ _ _ rfl ((hown.alloc _).alloc _) ⟨wr.heap.size + 1, 0, none⟩ 1 1 (dc ⟨y1, y2, y3, y4, y5⟩) rfl rfl ?c1 ?c2 ?c3 ?c4 ?c5 ?_)
              case c1 => exact news_new2 _ _ _ _
              case c2 => intro u hu; simp [dc] at hu; rcases hu with rfl | rfl | rfl | rfl | rfl <;> rfl
              case c3 => unfold maxLen; omega
              case c4 => omega
              case c5 => simp; omega
              intro v' w2 hown3 hgrow _
              have hbel3 : Below w.heap.size w w2 := (ba.alloc (by simp; omega) _).grown hgrow (by simp; omega) (fun g hg => by have := (hown.lt g hg).1; omega)
              have hb1 : Below (w.heap.size + 1) wr w2 := (((Below.refl (w.heap.size + 1) wr).alloc hsz _).alloc (by simp; omega) _).grown hgrow (by simp; omega) (fun g hg => (hown.lt g hg).1)
              have hbw3 : Blk w2 w.heap.size 26 #[.int .i64 x1, .int .i64 x2, .int .i64 x3, .int .i64 x4, .int .i64 x5] := (hb1.block w.heap.size (by omega)).trans hbw
              have hsz3 : w.heap.size + 1 ≤ w2.heap.size := Nat.le_trans hsz hb1.size
              have hown4 : w2.ownsRow (w.heap.size + 1) 26 5 v' (outL l ⟨x1, x2, x3, x4, x5⟩ (j + 1)).length ((outL l ⟨x1, x2, x3, x4, x5⟩ (j + 1)).flatMap dc) := by
                rw [HN.out.1, List.flatMap_append, List.length_append]
                simpa using hown3
              obtain ⟨a', c', rfl⟩ := len_of_own hown4
              clear hown hown3 hgrow ba hb1 hbw hbw2 z0 z1 z2 z3 z4
              go_wp2
              go_roundw
              case rel => exact ⟨j + 1, by omega, by go_num, by rw [HN.out.2], hown4, hbel3, hbw3, hsz3⟩
              case measure => simp [intOf]; omega
            · rw [e1, e2] at hgy'
              simp only [Bool.false_or, Bool.true_and] at hgy'
              go_wp2_with (at_builtin; refine wpList_append_own _ rfl _ _ 33 rfl (w.heap.size + 1) 26 i0 _ 5 40 Try.underlying33 hi hz0 hz1 hz2 rfl (by decide) _ _ _ rfl ((hown.alloc _).alloc _) ⟨wr.heap.size + 1, 0, none⟩ 1 1 (dc ⟨y1, y2, y3, y4, y5⟩) rfl rfl ?c1 ?c2 ?c3 ?c4 ?c5 ?_)
              case c1 => exact news_new2 _ _ _ _
              case c2 => intro u hu; simp [dc] at hu; rcases hu with rfl | rfl | rfl | rfl | rfl <;> rfl
              case c3 => unfold maxLen; omega
              case c4 => omega
              case c5 => simp; omega
              intro v' w2 hown3 hgrow _
              have hbel3 : Below w.heap.size w w2 := (ba.alloc (by simp; omega) _).grown hgrow (by simp; omega) (fun g hg => by have := (hown.lt g hg).1; omega)
              have hb1 : Below (w.heap.size + 1) wr w2 := (((Below.refl (w.heap.size + 1) wr).alloc hsz _).alloc (by simp; omega) _).grown hgrow (by simp; omega) (fun g hg => (hown.lt g hg).1)
              have hbw3 : Blk w2 w.heap.size 26 #[.int .i64 x1, .int .i64 x2, .int .i64 x3, .int .i64 x4, .int .i64 x5] := (hb1.block w.heap.size (by omega)).trans hbw
              have hsz3 : w.heap.size + 1 ≤ w2.heap.size := Nat.le_trans hsz hb1.size
              have hown4 : w2.ownsRow (w.heap.size + 1) 26 5 v' (outL l ⟨x1, x2, x3, x4, x5⟩ (j + 1)).length ((outL l ⟨x1, x2, x3, x4, x5⟩ (j + 1)).flatMap dc) := by
                rw [HN.out.1, List.flatMap_append, List.length_append]
                simpa using hown3
              obtain ⟨a', c', rfl⟩ := len_of_own hown4
              clear hown hown3 hgrow ba hb1 hbw hbw2 z0 z1 z2 z3 z4
              go_wp2
              go_roundw
              case rel => exact ⟨j + 1, by omega, by go_num, by rw [HN.out.2], hown4, hbel3, hbw3, hsz3⟩
              case measure => simp [intOf]; omega
          · rw [e1] at hgy'
            simp at hgy'
        · have hn := out_ins HX.out hf hgv
          have HN := Lib.hid hn
          rw [hgv] at hgy
          have hgy' := hgy.symm
          clear hn hgy hf hgv
          generalize outL l ⟨x1, x2, x3, x4, x5⟩ j = u at *
          cases e1 : decide (x1 < y1)
          · rw [e1] at hgy'
            simp only [Bool.false_or, Bool.and_eq_true] at hgy'
            obtain ⟨e2, e3⟩ := hgy'
            go_wp2_with (at_builtin; refine wpList_append_own _ rfl _ _ 33 rfl (w.heap.size + 1) 26 i0 _ 5 40 Try.underlying33 hi hz0 hz1 hz2 rfl (by decide) _ _ _ rfl ((hown.alloc _).alloc _) ⟨wr.heap.size + 1, 0, none⟩ 1 1 (dc ⟨x1, x2, x3, x4, x5⟩) rfl rfl ?c1 ?c2 ?c3 ?c4 ?c5 ?_)
            case c1 => exact news_new2 _ _ _ _
            case c2 => intro u hu; simp [dc] at hu; rcases hu with rfl | rfl | rfl | rfl | rfl <;> rfl
            case c3 => unfold maxLen; omega
            case c4 => omega
            case c5 => simp; omega
            intro v' w2 hown3 hgrow _
            have hbel3 : Below w.heap.size w w2 := (ba.alloc (by simp; omega) _).grown hgrow (by simp; omega) (fun g hg => by have := (hown.lt g hg).1; omega)
            have hb1 : Below (w.heap.size + 1) wr w2 := (((Below.refl (w.heap.size + 1) wr).alloc hsz _).alloc (by simp; omega) _).grown hgrow (by simp; omega) (fun g hg => (hown.lt g hg).1)
            have hbw3 : Blk w2 w.heap.size 26 #[.int .i64 x1, .int .i64 x2, .int .i64 x3, .int .i64 x4, .int .i64 x5] := (hb1.block w.heap.size (by omega)).trans hbw
            have hsz3 : w.heap.size + 1 ≤ w2.heap.size := Nat.le_trans hsz hb1.size
            have hyb : Blk w2 wr.heap.size 26 #[.int .i64 y1, .int .i64 y2, .int .i64 y3, .int .i64 y4, .int .i64 y5] := by
              refine (hgrow.block wr.heap.size (by simp; omega) (fun e => ?_)).trans ((Blk.new wr 26 _).alloc _)
              have := (hown.lt _ e.symm).2
              omega
            have q0 := hyb.cell 0
            have q1 := hyb.cell 1
            have q2 := hyb.cell 2
            have q3 := hyb.cell 3
            have q4 := hyb.cell 4
            simp at q0 q1 q2 q3 q4
            obtain ⟨a', c', rfl⟩ := len_of_own hown3
            clear hown hgrow ba hb1 hbw hbw2 z0 z1 z2 z3 z4 hyb hbel
            go_wp2_with (at_builtin; refine wpList_append_own _ rfl _ _ 33 rfl (w.heap.size + 1) 26 i0 _ 5 40 Try.underlying33 hi hz0 hz1 hz2 rfl (by decide) _ _ _ rfl (hown3.alloc _) ⟨w2.heap.size, 0, none⟩ 1 1 (dc ⟨y1, y2, y3, y4, y5⟩) rfl rfl ?c1 ?c2 ?c3 ?c4 ?c5 ?_)
            case c1 => exact news_new _ _ _
            case c2 => intro u hu; simp [dc] at hu; rcases hu with rfl | rfl | rfl | rfl | rfl <;> rfl
            case c3 => unfold maxLen; omega
            case c4 => omega
            case c5 => simp; omega
            intro v'' w3 hown5 hgrow _
            have hbel4 : Below w.heap.size w w3 := (hbel3.alloc hbel3.size _).grown hgrow (by simp; omega) (fun g hg => by have := (hown3.lt g hg).1; omega)
            have hb1 : Below (w.heap.size + 1) w2 w3 := (((Below.refl (w.heap.size + 1) w2).alloc hsz3 _)).grown hgrow (by simp; omega) (fun g hg => (hown3.lt g hg).1)
            have hbw4 : Blk w3 w.heap.size 26 #[.int .i64 x1, .int .i64 x2, .int .i64 x3, .int .i64 x4, .int .i64 x5] := (hb1.block w.heap.size (by omega)).trans hbw3
            have hsz4 : w.heap.size + 1 ≤ w3.heap.size := Nat.le_trans hsz3 hb1.size
            have hown4 : w3.ownsRow (w.heap.size + 1) 26 5 v'' (outL l ⟨x1, x2, x3, x4, x5⟩ (j + 1)).length ((outL l ⟨x1, x2, x3, x4, x5⟩ (j + 1)).flatMap dc) := by
              rw [HN.out.1, List.flatMap_append, List.length_append, List.flatMap_append, List.length_append]
              simpa using hown5
            obtain ⟨a', c', rfl⟩ := len_of_own hown4
            clear hown3 hown5 hgrow hb1 hbw3
            go_wp2
            go_roundw
            case rel => exact ⟨j + 1, by omega, by go_num, by rw [HN.out.2], hown4, hbel4, hbw4, hsz4⟩
            case measure => simp [intOf]; omega
          · clear hgy'
            go_wp2_with (at_builtin; refine wpList_append_own _ rfl _ _ 33 rfl (w.heap.size + 1) 26 i0 _ 5 40 Try.underlying33 hi hz0 hz1 hz2 rfl (by decide) _ _ _ rfl ((hown.alloc _).alloc _) ⟨wr.heap.size + 1, 0, none⟩ 1 1 (dc ⟨x1, x2, x3, x4, x5⟩) rfl rfl ?c1 ?c2 ?c3 ?c4 ?c5 ?_)
            case c1 => exact news_new2 _ _ _ _
            case c2 => intro u hu; simp [dc] at hu; rcases hu with rfl | rfl | rfl | rfl | rfl <;> rfl
            case c3 => unfold maxLen; omega
            case c4 => omega
            case c5 => simp; omega
            intro v' w2 hown3 hgrow _
            have hbel3 : Below w.heap.size w w2 := (ba.alloc (by simp; omega) _).grown hgrow (by simp; omega) (fun g hg => by have := (hown.lt g hg).1; omega)
            have hb1 : Below (w.heap.size + 1) wr w2 := (((Below.refl (w.heap.size + 1) wr).alloc hsz _).alloc (by simp; omega) _).grown hgrow (by simp; omega) (fun g hg => (hown.lt g hg).1)
            have hbw3 : Blk w2 w.heap.size 26 #[.int .i64 x1, .int .i64 x2, .int .i64 x3, .int .i64 x4, .int .i64 x5] := (hb1.block w.heap.size (by omega)).trans hbw
            have hsz3 : w.heap.size + 1 ≤ w2.heap.size := Nat.le_trans hsz hb1.size
            have hyb : Blk w2 wr.heap.size 26 #[.int .i64 y1, .int .i64 y2, .int .i64 y3, .int .i64 y4, .int .i64 y5] := by
              refine (hgrow.block wr.heap.size (by simp; omega) (fun e => ?_)).trans ((Blk.new wr 26 _).alloc _)
              have := (hown.lt _ e.symm).2
              omega
            have q0 := hyb.cell 0
            have q1 := hyb.cell 1
            have q2 := hyb.cell 2
            have q3 := hyb.cell 3
            have q4 := hyb.cell 4
            simp at q0 q1 q2 q3 q4
            obtain ⟨a', c', rfl⟩ := len_of_own hown3
            clear hown hgrow ba hb1 hbw hbw2 z0 z1 z2 z3 z4 hyb hbel
            go_wp2_with (at_builtin; refine wpList_append_own _ rfl _ _ 33 rfl (w.heap.size + 1) 26 i0 _ 5 40 Try.underlying33 hi hz0 hz1 hz2 rfl (by decide) _ _ _ rfl (hown3.alloc _) ⟨w2.heap.size, 0, none⟩ 1 1 (dc ⟨y1, y2, y3, y4, y5⟩) rfl rfl ?c1 ?c2 ?c3 ?c4 ?c5 ?_)
            case c1 => exact news_new _ _ _
            case c2 => intro u hu; simp [dc] at hu; rcases hu with rfl | rfl | rfl | rfl | rfl <;> rfl
            case c3 => unfold maxLen; omega
            case c4 => omega
            case c5 => simp; omega
            intro v'' w3 hown5 hgrow _
            have hbel4 : Below w.heap.size w w3 := (hbel3.alloc hbel3.size _).grown hgrow (by simp; omega) (fun g hg => by have := (hown3.lt g hg).1; omega)
            have hb1 : Below (w.heap.size + 1) w2 w3 := (((Below.refl (w.heap.size + 1) w2).alloc hsz3 _)).grown hgrow (by simp; omega) (fun g hg => (hown3.lt g hg).1)
            have hbw4 : Blk w3 w.heap.size 26 #[.int .i64 x1, .int .i64 x2, .int .i64 x3, .int .i64 x4, .int .i64 x5] := (hb1.block w.heap.size (by omega)).trans hbw3
            have hsz4 : w.heap.size + 1 ≤ w3.heap.size := Nat.le_trans hsz3 hb1.size
            have hown4 : w3.ownsRow (w.heap.size + 1) 26 5 v'' (outL l ⟨x1, x2, x3, x4, x5⟩ (j + 1)).length ((outL l ⟨x1, x2, x3, x4, x5⟩ (j + 1)).flatMap dc) := by
              rw [HN.out.1, List.flatMap_append, List.length_append, List.flatMap_append, List.length_append]
              simpa using hown5
            obtain ⟨a', c', rfl⟩ := len_of_own hown4
            clear hown3 hown5 hgrow hb1 hbw3
            go_wp2
            go_roundw
            case rel => exact ⟨j + 1, by omega, by go_num, by rw [HN.out.2], hown4, hbel4, hbw4, hsz4⟩
            case measure => simp [intOf]; omega
      · have hn := out_put HX.out hf
        have HN := Lib.hid hn
        clear hn hgy hf
        generalize outL l ⟨x1, x2, x3, x4, x5⟩ j = u at *
        go_wp2_with (at_builtin; refine wpList_append_own _ rfl _ _ 33 rfl (w.heap.size + 1) 26 i0 _ 5 40 Try.underlying33 hi hz0 hz1 hz2 rfl (by decide) _ _ _ rfl ((hown.alloc _).alloc _) ⟨wr.heap.size + 1, 0, none⟩ 1 1 (dc ⟨y1, y2, y3, y4, y5⟩) rfl rfl ?c1 ?c2 ?c3 ?c4 ?c5 ?_)
        case c1 => exact news_new2 _ _ _ _
        case c2 => intro u hu; simp [dc] at hu; rcases hu with rfl | rfl | rfl | rfl | rfl <;> rfl
        case c3 => unfold maxLen; omega
        case c4 => omega
        case c5 => simp; omega
        intro v' w2 hown3 hgrow _
        have hbel3 : Below w.heap.size w w2 := (ba.alloc (by simp; omega) _).grown hgrow (by simp; omega) (fun g hg => by have := (hown.lt g hg).1; omega)
        have hb1 : Below (w.heap.size + 1) wr w2 := (((Below.refl (w.heap.size + 1) wr).alloc hsz _).alloc (by simp; omega) _).grown hgrow (by simp; omega) (fun g hg => (hown.lt g hg).1)
        have hbw3 : Blk w2 w.heap.size 26 #[.int .i64 x1, .int .i64 x2, .int .i64 x3, .int .i64 x4, .int .i64 x5] := (hb1.block w.heap.size (by omega)).trans hbw
        have hsz3 : w.heap.size + 1 ≤ w2.heap.size := Nat.le_trans hsz hb1.size
        have hown4 : w2.ownsRow (w.heap.size + 1) 26 5 v' (outL l ⟨x1, x2, x3, x4, x5⟩ (j + 1)).length ((outL l ⟨x1, x2, x3, x4, x5⟩ (j + 1)).flatMap dc) := by
          rw [HN.out.1, List.flatMap_append, List.length_append]
          simpa using hown3
        obtain ⟨a', c', rfl⟩ := len_of_own hown4
        clear hown hown3 hgrow ba hb1 hbw hbw2 z0 z1 z2 z3 z4
        go_wp2
        go_roundw
        case rel => exact ⟨j + 1, by omega, by go_num, by rw [HN.out.2], hown4, hbel3, hbw3, hsz3⟩
        case measure => simp [intOf]; omega
    · obtain rfl : j = l.length := by omega
      have he := out_end (l := l) (x := ⟨x1, x2, x3, x4, x5⟩)
      have HE := Lib.hid he
      have z0 := hbw.cell 0
      have z1 := hbw.cell 1
      have z2 := hbw.cell 2
      have z3 := hbw.cell 3
      have z4 := hbw.cell 4
      simp at z0 z1 z2 z3 z4
      have hrb : Blk wr rb 35 _ := hHB.out.mod (Mod.of_below hbel) (fun h => h)
      have kr := hrb.cell 0
      have fr := hrb.frozen 0
      simp at kr
      clear he hc
      cases hf : flg l ⟨x1, x2, x3, x4, x5⟩ l.length
      · rw [hf] at HE
        simp only [Bool.false_eq_true, if_false] at HE
        clear hrb kr fr
        generalize outL l ⟨x1, x2, x3, x4, x5⟩ l.length = u at *
        go_wp2_with (at_builtin; refine wpList_append_own _ rfl _ _ 33 rfl (w.heap.size + 1) 26 i0 _ 5 40 Try.underlying33 hi hz0 hz1 hz2 rfl (by decide) _ _ _ rfl (hown.alloc _) ⟨wr.heap.size, 0, none⟩ 1 1 (dc ⟨x1, x2, x3, x4, x5⟩) rfl rfl ?c1 ?c2 ?c3 ?c4 ?c5 ?_)
        case c1 => exact news_new _ _ _
        case c2 => intro u hu; simp [dc] at hu; rcases hu with rfl | rfl | rfl | rfl | rfl <;> rfl
        case c3 => unfold maxLen; omega
        case c4 => omega
        case c5 => simp; omega
        intro v' w2 hown3 hgrow _
        have hbel3 : Below w.heap.size w w2 := (hbel.alloc hbel.size _).grown hgrow (by simp; omega) (fun g hg => by have := (hown.lt g hg).1; omega)
        have hrb : Blk w2 rb 35 _ := hHB.out.mod (Mod.of_below hbel3) (fun h => h)
        have kr := hrb.cell 0
        have fr := hrb.frozen 0
        simp at kr
        have hown4 : w2.ownsRow (w.heap.size + 1) 26 5 v' (insL l ⟨x1, x2, x3, x4, x5⟩).length ((insL l ⟨x1, x2, x3, x4, x5⟩).flatMap dc) := by
          rw [HE.out, List.flatMap_append, List.length_append]
          simpa using hown3
        have hR := RT.store hrb hlow (by omega) hown4
        have hM : ∀ u, Mod (fun k => k = rb) w (w2.setCell ⟨rb, 0, none⟩ u) := fun u => (mod_q hbel3).setCell (F := fun k => k = rb) (p := ⟨rb, 0, none⟩) (.inl rfl) u
        have HR := Lib.hid hR
        obtain ⟨a', c', rfl⟩ := len_of_own hown3
        clear hR hrb hown hown3 hown4 hgrow hbw hf z0 z1 z2 z3 z4
        go_wp2
        go_end0
        exact ⟨rfl, HR.out, hM _⟩
      · rw [hf] at HE
        simp only [if_true] at HE
        obtain ⟨a', c', rfl⟩ := len_of_own hown
        rw [← HE.out] at hown
        have hR := RT.store hrb hlow (by omega) hown
        rw [HE.out] at hR
        have hM : ∀ u, Mod (fun k => k = rb) w (wr.setCell ⟨rb, 0, none⟩ u) := fun u => (mod_q hbel).setCell (F := fun k => k = rb) (p := ⟨rb, 0, none⟩) (.inl rfl) u
        have HR := Lib.hid hR
        clear hR hrb hown hbw hf
        go_wp2
        go_end0
        refine ⟨rfl, ?_, hM _⟩
        rw [HE.out]
        exact HR.out
theorem rins (w : World) (B rb : Nat) (l : List DE) (x : DE) (h : RT w B rb l) (hl : l.length ≤ 1000) (hB : B ≤ w.heap.size) :
    Calls Try.prog 33 #[.pointer (some ⟨rb, 0, none⟩), .agg (da x)] w fun e w' => e = .returned (.tuple #[]) ∧ RT w' B rb (insL l x) ∧ Mod (RF w B rb) w w' :=
  (rins1 w B rb l x h hl hB).mono fun e w' ⟨h1, h2, h3⟩ => ⟨h1, h2, h3.mono fun k _ e => .inl e⟩
end Go.Proofs.Ytidmkdaegglepaa
