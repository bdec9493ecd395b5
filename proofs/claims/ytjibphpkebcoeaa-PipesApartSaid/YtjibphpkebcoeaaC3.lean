/- Walks over the reference's pipes, 3: Open. -/
import Derived.Test.YtjibphpkebcoeaaC2
set_option linter.all false
namespace Go.Proofs.Ytjibphpkebcoeaa
open Go.RowKit

def lessL (id : Int) (l : List Ent) : List Ent := l.filter fun x => decide (x.1 < id)
def moreL (id : Int) (l : List Ent) : List Ent := l.filter fun x => decide (id < x.1)
theorem lessL_len (id : Int) (l : List Ent) : (lessL id l).length ≤ l.length := List.length_filter_le _ _
theorem moreL_len (id : Int) (l : List Ent) : (moreL id l).length ≤ l.length := List.length_filter_le _ _
theorem lessL_take (id : Int) (l : List Ent) (k : Nat) : (lessL id (l.take k)).length ≤ k := Nat.le_trans (lessL_len _ _) (List.length_take_le _ _)
theorem moreL_take (id : Int) (l : List Ent) (k : Nat) : (moreL id (l.take k)).length ≤ k := Nat.le_trans (moreL_len _ _) (List.length_take_le _ _)
theorem lessL_no {id : Int} {l : List Ent} {k : Nat} {x : Ent} (h : l[k]? = some x) (he : ¬ x.1 < id) : lessL id (l.take (k + 1)) = lessL id (l.take k) := by
  unfold lessL; rw [take_snoc_list h, List.filter_append]; simp [he]
theorem lessL_yes {id : Int} {l : List Ent} {k : Nat} {x : Ent} (h : l[k]? = some x) (he : x.1 < id) : lessL id (l.take (k + 1)) = lessL id (l.take k) ++ [x] := by
  unfold lessL; rw [take_snoc_list h, List.filter_append]; simp [he]
theorem moreL_no {id : Int} {l : List Ent} {k : Nat} {x : Ent} (h : l[k]? = some x) (he : ¬ id < x.1) : moreL id (l.take (k + 1)) = moreL id (l.take k) := by
  unfold moreL; rw [take_snoc_list h, List.filter_append]; simp [he]
theorem moreL_yes {id : Int} {l : List Ent} {k : Nat} {x : Ent} (h : l[k]? = some x) (he : id < x.1) : moreL id (l.take (k + 1)) = moreL id (l.take k) ++ [x] := by
  unfold moreL; rw [take_snoc_list h, List.filter_append]; simp [he]
theorem fidx_some {id : Int} : ∀ {l : List Ent}, 0 ≤ fidx l id → ∃ (i : Nat) (y : Ent), l[i]? = some y ∧ y.1 = id
  | [], h => by simp [fidx] at h
  | a :: l, h => by
    simp only [fidx] at h
    split at h
    · exact ⟨0, a, rfl, ‹_›⟩
    · split at h
      · omega
      · have := (fidx_ge id l).1
        obtain ⟨i, y, h1, h2⟩ := fidx_some (l := l) (id := id) (by omega)
        exact ⟨i + 1, y, h1, h2⟩
def ffree (l : List Ent) : Nat := if fidx l 0 < 0 then 0 else if fidx l 1 < 0 then 1 else if fidx l 2 < 0 then 2 else 3
theorem ffree_of {l : List Ent} {k : Nat} (hk : k ≤ 3) (h : ∀ j : Nat, j < k → 0 ≤ fidx l j) (h2 : fidx l k < 0) : ffree l = k := by
  unfold ffree
  match k, hk with
  | 0, _ => rw [if_pos (by simpa using h2)]
  | 1, _ =>
    have := h 0 (by omega)
    rw [if_neg (by simpa using this), if_pos (by simpa using h2)]
  | 2, _ =>
    have h0 := h 0 (by omega)
    have h1 := h 1 (by omega)
    rw [if_neg (by simpa using h0), if_neg (by simpa using h1), if_pos (by simpa using h2)]
  | 3, _ =>
    have h0 := h 0 (by omega)
    have h1 := h 1 (by omega)
    have h3 := h 2 (by omega)
    rw [if_neg (by simpa using h0), if_neg (by simpa using h1), if_neg (by simpa using h3)]
def opL (l : List Ent) : List Ent := lessL (ffree l) l ++ [((ffree l : Int), ByteArray.empty)] ++ moreL (ffree l) l

theorem opL_sz {l : List Ent} (h : ∀ y ∈ l, y.2.size ≤ 16) : ∀ y ∈ opL l, y.2.size ≤ 16 := by
  intro y hy
  simp only [opL, List.mem_append, List.mem_singleton] at hy
  rcases hy with (hy | rfl) | hy
  · exact h y (List.mem_filter.1 hy).1
  · simp
  · exact h y (List.mem_filter.1 hy).1
set_option maxHeartbeats 3200000 in
set_option maxRecDepth 100000 in
theorem open_rr (l : List Ent) (B rb : Nat) (w : World) (h : RR w B rb l) (hB : B ≤ w.heap.size) (hid : ∀ (i : Nat) (y : Ent), l[i]? = some y → y.1 < 3) (hlen : l.length ≤ 100) :
    Calls Try.prog 46 #[.pointer (some ⟨rb, 0, none⟩)] w fun e w' => Mod (RF w B rb) w w' ∧
      ((ffree l < 3 ∧ e = .returned (.tuple #[.int .i64 (ffree l), .int .i64 0]) ∧ RR w' B rb (opL l)) ∨
       (3 ≤ ffree l ∧ e = .returned (.tuple #[.int .i64 0, .int .i64 5]) ∧ RR w' B rb l)) := by
  obtain ⟨i0, hi, hz0, hz1, hz2⟩ := info_parts Try.info75
  have HID := Lib.hid hid
  clear hid
  go_enter Try.func46, Try.ntmps46
  go_wp2_with fail
  go_loopw [4] (fun i wr => ∃ k : Nat, k ≤ 3 ∧ i = .int .i64 k ∧ Hid (∀ j : Nat, j < k → 0 ≤ fidx l j) ∧ Below w.heap.size w wr) (fun i _ => 3 - (intOf i).toNat)
  case atStart => exact ⟨0, by omega, rfl, fun j h => absurd h (by omega), Below.refl _ _⟩
  case round =>
    obtain ⟨k, hk, rfl, hs, hbel⟩ := hrel
    have hw := h.mod (Mod.of_below hbel) (fun _ _ h => h)
    by_cases hf : 0 ≤ fidx l k
    · have hk3 : (k : Int) < 3 := by
        obtain ⟨i, y, h1, h2⟩ := fidx_some hf
        have := HID.out i y h1
        omega
      have hf' : decide (0 ≤ fidx l k) = true := by simpa using hf
      have HF := Lib.hid hf
      clear hf
      go_wp2_with (go_at_call 52; refine (at_rr l B rb k _ hw).mono ?_; rintro e w' ⟨rfl, hb⟩)
      go_roundw
      case rel =>
        refine ⟨k + 1, by omega, by go_num, ?_, hbel.trans (hb.mono hbel.size)⟩
        intro j hj
        rcases Nat.lt_or_ge j k with h1 | h1
        · exact hs j h1
        · obtain rfl : j = k := by omega
          exact HF.out
      case measure => simp [intOf]; omega
    · have e0 := ffree_of hk hs (by omega)
      have hf' : decide (0 ≤ fidx l k) = false := by simpa using hf
      clear hf hs
      go_wp2_with fail
      refine (at_rr l B rb k _ hw).mono ?_
      rintro e w1 ⟨rfl, hb⟩
      have hb1 := hbel.trans (hb.mono hbel.size)
      have h1 := h.mod (Mod.of_below hb1) (fun _ _ h => h)
      clear hbel hb hw
      by_cases hk3 : k = 3
      · have hk5 : (2 : Int) < (k : Int) := by omega
        have hk6 : 3 ≤ k := by omega
        have E0 := Lib.hid e0
        clear e0 hk3
        go_wp2
        go_ret2
        rw [E0.out]
        exact ⟨(Mod.of_below hb1).mono (fun _ _ h => h.elim), .inr ⟨by omega, rfl, h1⟩⟩
      · have hk4 : (k : Int) < 3 := by omega
        have E0 := Lib.hid e0
        clear e0 hk3
        obtain ⟨hl1, hl2, hl3, v, hbk, ho⟩ := h1
        have HZ := Lib.hid hl3
        clear hl3
        have hin := own_inp ec_len ho rfl (by unfold maxLen; omega)
        obtain ⟨_, a, cap, rfl, hc⟩ := hin
        have k0 := hbk.cell 0
        simp at k0
        have hblk := Lib.hid hbk
        clear hbk
        go_wp2_with fail
        go_loopw [5, 23] (fun v i wr => ∃ m : Nat, m ≤ l.length ∧ i = .int .i64 m ∧ wr.ownsRow w1.heap.size 75 2 v (lessL k (l.take m)).length ((lessL k (l.take m)).flatMap ec) ∧ Below w1.heap.size w1 wr) (fun _ i _ => l.length - (intOf i).toNat)
        case atStart => exact ⟨0, by omega, rfl, World.ownsRow_nil _ _ _ _, Below.refl _ _⟩
        case round =>
          obtain ⟨m, hm, rfl, hown, hbel⟩ := hrel
          have hfl := lessL_take k l m
          have hsz := hbel.size
          by_cases hlt : m < l.length
          · obtain ⟨b, off, rfl, hb, hcl⟩ := hc (by omega)
            have hx : l[m]? = some (l[m]'hlt) := List.getElem?_eq_getElem hlt
            generalize l[m]'hlt = x at hx
            have c0 := (hbel.cell (p := ⟨b, _, none⟩) hb).trans (hcl m hlt 0 (by omega))
            have c1 := (hbel.cell (p := ⟨b, _, none⟩) hb).trans (hcl m hlt 1 (by omega))
            rw [atl_get hx (v := .int .i64 x.1) rfl] at c0
            rw [atl_get hx (v := .string x.2) rfl] at c1
            simp only [Nat.add_zero] at c0
            clear hcl hc
            by_cases he : x.1 < (k : Int)
            · have HN := Lib.hid (lessL_yes hx he)
              clear hx
              go_wp2_with (at_builtin; refine wpList_append_own _ rfl _ _ 61 rfl w1.heap.size 75 i0 _ 2 24 Try.underlying61 hi hz0 hz1 hz2 rfl (by decide) _ _ _ rfl ((hown.alloc _).alloc _) ⟨wr.heap.size + 1, 0, none⟩ 1 1 (ec x) rfl rfl ?c1 ?c2 ?c3 ?c4 ?c5 ?_)
              case c1 => exact news_new2 _ _ _ _
              case c2 => intro u hu; simp [ec] at hu; rcases hu with rfl | rfl <;> rfl
              case c3 => unfold maxLen; omega
              case c4 => omega
              case c5 => simp; omega
              intro v' w2 hown1 hgrow _
              have hbel1 : Below w1.heap.size w1 w2 := ((hbel.alloc hsz _).alloc (by simp; omega) _).grown hgrow (by simp; omega) (fun g hg => (hown.lt g hg).1)
              clear hown hgrow
              go_wp2
              go_roundw
              case rel =>
                refine ⟨m + 1, by omega, by go_num, ?_, hbel1⟩
                rw [HN.out, List.flatMap_append, List.length_append]
                simpa using hown1
              case measure => simp [intOf]; omega
            · have hn := lessL_no hx he
              rw [← hn] at hown
              clear hx hn
              go_wp2
              go_roundw
              case rel => exact ⟨m + 1, by omega, by go_num, hown.alloc _, hbel.alloc hbel.size _⟩
              case measure => simp [intOf]; omega
          · obtain rfl : m = l.length := by omega
            rw [List.take_length] at hown hfl
            clear hm hlt
            obtain ⟨a', c', rfl⟩ := len_of_own hown
            go_wp2_with (at_builtin; refine wpList_append_own _ rfl _ _ 61 rfl w1.heap.size 75 i0 _ 2 24 Try.underlying61 hi hz0 hz1 hz2 rfl (by decide) _ _ _ rfl (hown.alloc _) ⟨wr.heap.size, 0, none⟩ 1 1 (ec ((k : Int), ByteArray.empty)) rfl rfl ?c1 ?c2 ?c3 ?c4 ?c5 ?_)
            case c1 => exact news_new _ _ _
            case c2 => intro u hu; simp [ec] at hu; rcases hu with rfl | rfl <;> rfl
            case c3 => unfold maxLen; omega
            case c4 => omega
            case c5 => simp; omega
            intro v2 w2 hown2 hgrow _
            have hbel2 : Below w1.heap.size w1 w2 := (hbel.alloc hsz _).grown hgrow (by simp; omega) (fun g hg => (hown.lt g hg).1)
            have hx2 : (lessL k l ++ [((k : Int), ByteArray.empty)]).flatMap ec = (lessL k l).flatMap ec ++ ec ((k : Int), ByteArray.empty) := by simp
            rw [← hx2] at hown2
            have hx3 : (lessL k l).length + 1 = (lessL k l ++ [((k : Int), ByteArray.empty)]).length := by simp
            rw [hx3] at hown2
            have hL2 : (lessL k l ++ [((k : Int), ByteArray.empty)]).length ≤ l.length + 1 := by simp; exact lessL_len k l
            clear hown hgrow hx2 hx3 hfl hbel
            obtain ⟨L, hL⟩ : ∃ L, lessL k l ++ [((k : Int), ByteArray.empty)] = L := ⟨_, rfl⟩
            rw [hL] at hown2 hL2
            have HL := Lib.hid hL
            clear hL
            have kw2 := (hbel2.cell (p := ⟨rb, 0, none⟩) hblk.out.lt).trans k0
            go_wp2_with fail
            go_loopw [5, 46] (fun v i wr => ∃ m : Nat, m ≤ l.length ∧ i = .int .i64 m ∧ wr.ownsRow w1.heap.size 75 2 v (L ++ moreL k (l.take m)).length ((L ++ moreL k (l.take m)).flatMap ec) ∧ Below w1.heap.size w1 wr) (fun _ i _ => l.length - (intOf i).toNat)
            case atStart => exact ⟨0, by omega, rfl, by simpa [moreL] using hown2, hbel2⟩
            case round =>
              obtain ⟨m, hm, rfl, hown, hbel⟩ := hrel
              have hfl := moreL_take k l m
              have hsz := hbel.size
              have hLL : (L ++ moreL k (l.take m)).length ≤ 1000 := by rw [List.length_append]; omega
              by_cases hlt : m < l.length
              · obtain ⟨b, off, rfl, hb, hcl⟩ := hc (by omega)
                have hx : l[m]? = some (l[m]'hlt) := List.getElem?_eq_getElem hlt
                generalize l[m]'hlt = x at hx
                have c0 := (hbel.cell (p := ⟨b, _, none⟩) hb).trans (hcl m hlt 0 (by omega))
                have c1 := (hbel.cell (p := ⟨b, _, none⟩) hb).trans (hcl m hlt 1 (by omega))
                rw [atl_get hx (v := .int .i64 x.1) rfl] at c0
                rw [atl_get hx (v := .string x.2) rfl] at c1
                simp only [Nat.add_zero] at c0
                clear hcl hc hown2 hbel2
                by_cases he : (k : Int) < x.1
                · have HN := Lib.hid (moreL_yes hx he)
                  clear hx
                  go_wp2_with (at_builtin; refine wpList_append_own _ rfl _ _ 61 rfl w1.heap.size 75 i0 _ 2 24 Try.underlying61 hi hz0 hz1 hz2 rfl (by decide) _ _ _ rfl ((hown.alloc _).alloc _) ⟨wr.heap.size + 1, 0, none⟩ 1 1 (ec x) rfl rfl ?d1 ?d2 ?d3 ?d4 ?d5 ?_)
                  case d1 => exact news_new2 _ _ _ _
                  case d2 => intro u hu; simp [ec] at hu; rcases hu with rfl | rfl <;> rfl
                  case d3 => unfold maxLen; omega
                  case d4 => omega
                  case d5 => simp; omega
                  intro v' w3 hown1 hgrow _
                  have hbel1 : Below w1.heap.size w1 w3 := ((hbel.alloc hsz _).alloc (by simp; omega) _).grown hgrow (by simp; omega) (fun g hg => (hown.lt g hg).1)
                  clear hown hgrow
                  go_wp2
                  go_roundw
                  case rel =>
                    refine ⟨m + 1, by omega, by go_num, ?_, hbel1⟩
                    rw [HN.out, ← List.append_assoc, List.flatMap_append, List.length_append]
                    simpa using hown1
                  case measure => simp [intOf]; omega
                · have hn := moreL_no hx he
                  rw [← hn] at hown
                  clear hx hn
                  go_wp2
                  go_roundw
                  case rel => exact ⟨m + 1, by omega, by go_num, hown.alloc _, hbel.alloc hbel.size _⟩
                  case measure => simp [intOf]; omega
              · obtain rfl : m = l.length := by omega
                rw [List.take_length] at hown hLL
                have eL : L ++ moreL k l = opL l := by unfold opL; rw [E0.out, HL.out]
                rw [eL] at hown hLL
                clear hc hown2 hbel2
                obtain ⟨a', c', rfl⟩ := len_of_own hown
                have hbw : Blk wr rb 63 _ := hblk.out.mod (Mod.of_below hbel) (fun h => h)
                have kw := hbw.cell 0
                have fw := hbw.frozen 0
                simp at kw
                have hB1 : B ≤ w1.heap.size := by have := hb1.size; omega
                have hR := RR.store hbw hl1 hLL (opL_sz HZ.out) hB1 hown
                have hM : ∀ u, Mod (RF w B rb) w (wr.setCell ⟨rb, 0, none⟩ u) := fun u =>
                  (((Mod.of_below hb1).mono (G := RF w B rb) (fun _ _ h => h.elim)).trans (Mod.of_below hbel) (fun _ _ h => h.elim)).setCell (.inl (.inl rfl)) u
                clear hbw hown hbel hblk eL
                go_wp2
                go_ret2
                rw [E0.out]
                exact ⟨hM _, .inl ⟨by omega, rfl, hR⟩⟩
end Go.Proofs.Ytjibphpkebcoeaa
