/- The reference's frames: Load, Copy, New. -/
import Derived.Test.YtjibphpkebcoeaaH2
import Derived.Test.YtjibphpkebcoeaaG2
set_option linter.all false
namespace Go.Proofs.Ytjibphpkebcoeaa
open Go.RowKit

theorem setL_snoc (y : UInt8) : ∀ (ys : List UInt8) (xs : List UInt8) (o : Nat), setL xs o (ys ++ [y]) = (setL xs o ys).set (o + ys.length) y := by
  intro ys
  induction ys with
  | nil => intro xs o; simp [setL]
  | cons a r ih => intro xs o; rw [List.cons_append, setL, ih, setL, List.length_cons]; congr 1; omega
theorem setL_next {xs ys : List UInt8} {o k : Nat} {y : UInt8} (h : ys[k]? = some y) : setL xs o (ys.take (k + 1)) = (setL xs o (ys.take k)).set (o + k) y := by
  rw [take_snoc_list h, setL_snoc]
  congr 1
  have := (List.getElem?_eq_some_iff.1 h).1
  rw [List.length_take]; omega
theorem pad_in {s : ByteArray} (h : s.size ≤ 16) {k : Nat} (hk : k < s.size) : (padL s)[k]? = some s[k] := by
  have hl : s.data.toList.length = s.size := by simp
  rw [padL_eq h, List.getElem?_append_left (by omega), List.getElem?_eq_getElem (by omega)]
  simp
  rfl
theorem pad_out {s : ByteArray} (h : s.size ≤ 16) {k : Nat} (hk : s.size ≤ k) (h2 : k < 16) : (padL s)[k]? = some 0 := by
  have hl : s.data.toList.length = s.size := by simp
  rw [padL_eq h, List.getElem?_append_right (by omega), List.getElem?_replicate, if_pos (by omega)]
theorem RM.spot {w : World} {B b n g cap : Nat} {xs : List UInt8} (h : RM w B b n xs) (hb : Blk w b 94 #[.slice (some ⟨g, 0, none⟩) (16 * n) cap]) (i : Nat) (hi : i < 16 * n) :
    (∃ y, w.cell? ⟨g, i, none⟩ = some y) ∧ w.frozen? ⟨g, i, none⟩ = false := by
  obtain ⟨h1, h2, h3, g', cap', cur, hb', hg, hl, h5, hc⟩ := h
  have e : g' = g ∧ cap' = cap := by
    unfold Blk at hb hb'
    rw [hb] at hb'
    simp at hb'
    exact ⟨hb'.1.symm, hb'.2.symm⟩
  obtain ⟨rfl, rfl⟩ := e
  refine ⟨⟨bc xs[i], ?_⟩, hg.frozen _⟩
  rw [hg.cell, hc i hi, bcs_get, List.getElem?_eq_getElem (by omega)]
  rfl

set_option maxHeartbeats 3200000 in
set_option maxRecDepth 100000 in
theorem rload (w : World) (B b n : Nat) (xs : List UInt8) (f : Int) (s : ByteArray) (h : RM w B b n xs) :
    Calls Try.prog 43 #[.pointer (some ⟨b, 0, none⟩), .int .i64 f, .string s] w fun e w' => e = .returned (.int .i64 (ldE n f s)) ∧ RM w' B b n (ldX n xs f s) ∧ Mod (RO w B b) w w' := by
  by_cases hf : fw n f = true
  · have e1 : ldX n xs f s = xs := by simp [ldX, hf]
    have e2 : ldE n f s = 6 := by simp [ldE, hf]
    rw [e1, e2]
    have e3 : (!fw n f) = false := by simp [hf]
    have E3 := Lib.hid e3
    clear e1 e2 e3 hf
    go_enter Try.func43, Try.ntmps43
    go_wp2_with (go_at_call 45; refine (ris w B b n xs f h).mono ?_; rintro e w' ⟨rfl, rfl⟩; rw [E3.out])
    go_ret
    exact ⟨rfl, h, Mod.refl _ _⟩
  have hf' : fw n f = false := by simpa using hf
  have e3 : (!fw n f) = true := by simp [hf']
  have E3 := Lib.hid e3
  by_cases hs : 16 < s.size
  · have e1 : ldX n xs f s = xs := by simp [ldX, hf', hs]
    have e2 : ldE n f s = 2 := by simp [ldE, hf', hs]
    rw [e1, e2]
    have a0 : decide (16 < (s.size : Int)) = true := by simp; omega
    clear e1 e2 e3 hf hf'
    go_enter Try.func43, Try.ntmps43
    go_wp2_with (go_at_call 45; refine (ris w B b n xs f h).mono ?_; rintro e w' ⟨rfl, rfl⟩; rw [E3.out])
    go_ret
    exact ⟨rfl, h, Mod.refl _ _⟩
  obtain ⟨k, rfl, hk⟩ := fw_no hf'
  have e1 : ldX n xs k s = setL xs (16 * k) (padL s) := by simp [ldX, hf', hs, Nat.mul_comm]
  have e2 : ldE n k s = 0 := by simp [ldE, hf', hs]
  rw [e1, e2]
  have a0 : decide (16 < (s.size : Int)) = false := by simp; omega
  have hs' : s.size ≤ 16 := by omega
  have hpos := h.pos
  obtain ⟨g, cap, hb, hg⟩ : ∃ g cap, Blk w b 94 #[.slice (some ⟨g, 0, none⟩) (16 * n) cap] ∧ RO w B b g := by
    obtain ⟨g, cap, cur, hb, hg, hBg, _⟩ := h.tab
    exact ⟨g, cap, hb, .inr ⟨hBg, _, hg⟩⟩
  have HG := Lib.hid hg
  clear e1 e2 e3 hf hf' hs hg
  go_enter Try.func43, Try.ntmps43
  go_wp2_with (go_at_call 45; refine (ris w B b n xs k h).mono ?_; rintro e w' ⟨rfl, rfl⟩; rw [E3.out])
  go_loopw [7] (fun i wr => ∃ j : Nat, j ≤ 16 ∧ i = .int .i64 j ∧ RM wr B b n (setL xs (16 * k) ((padL s).take j)) ∧ Blk wr b 94 #[.slice (some ⟨g, 0, none⟩) (16 * n) cap] ∧ Mod (RO w B b) w wr) (fun i _ => 16 - (intOf i).toNat)
  case atStart => exact ⟨0, by omega, rfl, by simpa [setL] using h, hb, Mod.refl _ _⟩
  case round =>
    obtain ⟨j, hj, rfl, hr, hbw, hm⟩ := hrel
    clear h hb
    by_cases hlt : j < 16
    · have d0 : decide ((j : Int) < 16) = true := by simp; omega
      obtain ⟨⟨y, c0⟩, f0⟩ := hr.spot hbw (16 * k + j) (by omega)
      have k0 := hbw.cell 0
      simp at k0
      have hi : ((16 * (k : Int) + (j : Int))).toNat = 16 * k + j := by omega
      by_cases hjs : j < s.size
      · have d1 : decide ((j : Int) < (s.size : Int)) = true := by simp; omega
        have hp := hr.put hbw (16 * k + j) s[j]
        rw [← setL_next (pad_in hs' hjs)] at hp
        have hM := hm.setCell (p := ⟨g, 16 * k + j, none⟩) (.inl HG.out) (bc s[j])
        have HP := Lib.hid hp
        have HM := Lib.hid hM
        clear hp hM hr hm hbw
        unfold bc at HP HM
        have hji : (j : Int) < (s.size : Int) := by omega
        go_wp2
        go_roundw
        case rel => exact ⟨j + 1, by omega, by go_num, HP.out.1, HP.out.2.2, HM.out⟩
        case measure => simp [intOf]; omega
      · have d1 : decide ((j : Int) < (s.size : Int)) = false := by simp; omega
        have hp := hr.put hbw (16 * k + j) 0
        rw [← setL_next (pad_out hs' (by omega) hlt)] at hp
        have hM := hm.setCell (p := ⟨g, 16 * k + j, none⟩) (.inl HG.out) (bc 0)
        have HP := Lib.hid hp
        have HM := Lib.hid hM
        clear hp hM hr hm hbw
        rw [show bc 0 = .int .u8 0 from rfl] at HP HM
        go_wp2
        go_roundw
        case rel => exact ⟨j + 1, by omega, by go_num, HP.out.1, HP.out.2.2, HM.out⟩
        case measure => simp [intOf]; omega
    · obtain rfl : j = 16 := by omega
      rw [List.take_of_length_le (by rw [padL_len]; exact Nat.le_refl _)] at hr
      have HR := Lib.hid hr
      have HM := Lib.hid hm
      clear hr hm hbw
      go_wp2
      go_ret
      exact ⟨rfl, HR.out, HM.out⟩

theorem pad_pg {xs : List UInt8} {n k : Nat} (h : xs.length = 16 * n) (hk : k < n) : padL ⟨(pgL xs k).toArray⟩ = pgL xs k := by
  have hl := pgL_len h hk
  have hs : (⟨(pgL xs k).toArray⟩ : ByteArray).size = 16 := by show (pgL xs k).toArray.size = 16; simpa using hl
  rw [padL_eq (by omega), hs]
  simp
set_option maxHeartbeats 1600000 in
set_option maxRecDepth 100000 in
theorem rcopy (w : World) (B b n : Nat) (xs : List UInt8) (f t : Int) (h : RM w B b n xs) :
    Calls Try.prog 42 #[.pointer (some ⟨b, 0, none⟩), .int .i64 f, .int .i64 t] w fun e w' => e = .returned (.int .i64 (cpE n f t)) ∧ RM w' B b n (cpX n xs f t) ∧ Mod (RO w B b) w w' := by
  by_cases hf : fw n f = true
  · have e1 : cpE n f t = 6 := by simp [cpE, fwE, hf]
    have e2 : cpX n xs f t = xs := by rw [cpX, if_pos (show fwE n [f, t] = 6 from e1)]
    have e3 : pgE n f = 6 := by simp [pgE, hf]
    have E3 := Lib.hid e3
    rw [e1, e2]
    generalize pgS n xs f = px
    clear e1 e2 e3 hf
    go_enter Try.func42, Try.ntmps42
    go_wp2_with fail
    refine (rpage w B b n xs f h).mono ?_
    rintro e w' ⟨rfl, rfl⟩
    rw [E3.out]
    generalize pgS n xs f = px
    go_wp2
    go_ret
    exact ⟨rfl, h, Mod.refl _ _⟩
  have hf' : fw n f = false := by simpa using hf
  have e3 : pgE n f = 0 := by simp [pgE, hf']
  have E3 := Lib.hid e3
  by_cases ht : fw n t = true
  · have e1 : cpE n f t = 6 := by simp [cpE, fwE, ht]
    have e2 : cpX n xs f t = xs := by rw [cpX, if_pos (show fwE n [f, t] = 6 from e1)]
    have e4 : (!fw n t) = false := by simp [ht]
    have E4 := Lib.hid e4
    rw [e1, e2]
    clear e1 e2 e3 hf hf' ht e4
    go_enter Try.func42, Try.ntmps42
    go_wp2_with fail
    refine (rpage w B b n xs f h).mono ?_
    rintro e w' ⟨rfl, rfl⟩
    rw [E3.out]
    generalize pgS n xs f = px
    go_wp2_with (go_at_call 45; refine (ris w B b n xs t h).mono ?_; rintro e w' ⟨rfl, rfl⟩; rw [E4.out])
    go_ret
    exact ⟨rfl, h, Mod.refl _ _⟩
  have ht' : fw n t = false := by simpa using ht
  have e4 : (!fw n t) = true := by simp [ht']
  have E4 := Lib.hid e4
  have e1 : fwE n [f, t] = 0 := by simp [fwE, hf', ht']
  obtain ⟨k, rfl, hk⟩ := fw_no hf'
  have e5 : pgS n xs k = ⟨(pgL xs k).toArray⟩ := by simp [pgS, hf']
  have hsz : (pgS n xs k).size = 16 := by rw [e5]; show (pgL xs k).toArray.size = 16; simpa using pgL_len h.len hk
  have e6 : ldE n t (pgS n xs k) = cpE n k t := by simp [ldE, ht', hsz, cpE, e1]
  have e7 : ldX n xs t (pgS n xs k) = cpX n xs k t := by
    simp only [ldX, ht', hsz, cpX, e1]
    simp only [e5, pad_pg h.len hk]
    simp
  rw [← e6, ← e7]
  clear e1 e3 e4 e5 e6 e7 hf hf' ht ht'
  obtain ⟨px, hpx⟩ : ∃ px, pgS n xs k = px := ⟨_, rfl⟩
  rw [hpx] at hsz ⊢
  have HPX := Lib.hid hpx
  clear hpx
  go_enter Try.func42, Try.ntmps42
  go_wp2_with fail
  refine (rpage w B b n xs k h).mono ?_
  rintro e w' ⟨rfl, rfl⟩
  rw [E3.out, HPX.out]
  go_wp2_with fail
  refine (ris w B b n xs t h).mono ?_
  rintro e w' ⟨rfl, rfl⟩
  rw [E4.out]
  go_wp2_with fail
  refine (rload w B b n xs t px h).mono ?_
  rintro e w1 ⟨rfl, h1, m1⟩
  go_wp2
  go_ret
  exact ⟨rfl, h1, m1⟩

theorem Try.info5 : (Try.prog.info? 5).map (fun i => (i.zero, i.size, i.bytes)) = some (some (.int .u8 0), 1, 1) := by kernel_rfl
set_option maxHeartbeats 3200000 in
set_option maxRecDepth 100000 in
theorem rnew (w : World) (B n : Nat) (hB : B ≤ w.heap.size) (hn : 1 ≤ n ∧ n ≤ 64) :
    Calls Try.prog 24 #[.int .i64 n] w fun e w' => ∃ rb, e = .returned (.pointer (some ⟨rb, 0, none⟩)) ∧ RM w' B rb n (zeros n) ∧ Below w.heap.size w w' := by
  obtain ⟨i0, hi, hz0, hz1, hz2⟩ := info_parts Try.info5
  have hb0 := Blk.new w 94 #[.slice none 0 0]
  have bb0 := alloc_below w (.cells #[.slice none 0 0] 94)
  obtain ⟨hn1, hn2⟩ := hn
  go_enter Try.func24, Try.ntmps24
  go_wp2
  go_loopw [4] (fun i wr => ∃ (j : Nat) (v : Value), j ≤ 16 * n ∧ i = .int .i64 j ∧ Blk wr w.heap.size 94 #[v] ∧ wr.ownsRow (w.heap.size + 1) 5 1 v j ((List.replicate j 0).map bc) ∧ Below w.heap.size w wr ∧ w.heap.size + 1 ≤ wr.heap.size) (fun i _ => 16 * n - (intOf i).toNat)
  case atStart => exact ⟨0, _, by omega, rfl, hb0, World.ownsRow_nil _ _ _ _, bb0, by simp⟩
  case round =>
    obtain ⟨j, v, hj, rfl, hb, hown, hbel, hsz⟩ := hrel
    clear hb0 bb0
    have k0 := hb.cell 0
    have f0 := hb.frozen 0
    simp at k0
    by_cases hlt : j < 16 * n
    · have d0 : decide ((j : Int) < 16 * (n : Int)) = true := by simp; omega
      go_wp2_with (at_builtin; refine wpList_append_own _ rfl _ _ 92 rfl (w.heap.size + 1) 5 i0 _ 1 1 Try.underlying92 hi hz0 hz1 hz2 rfl (by decide) _ _ _ rfl (hown.alloc _) ⟨wr.heap.size, 0, none⟩ 1 1 [bc 0] rfl rfl ?c1 ?c2 ?c3 ?c4 ?c5 ?_)
      case c1 => exact news_new _ _ _
      case c2 => intro u hu; simp at hu; subst hu; rfl
      case c3 => unfold maxLen; omega
      case c4 => omega
      case c5 => simp; omega
      intro v' w2 hown1 hgrow _
      have hM : Mod (fun k => v.ownBlock = some k) wr w2 := ((Mod.refl _ wr).alloc _).grown hgrow (fun k h => .inl h)
      have hb2 : Blk w2 w.heap.size 94 #[v] := hb.mod hM (fun h => by have := (hown.lt _ h).1; omega)
      have hbel2 : Below w.heap.size w w2 := (hbel.alloc (by omega) _).grown hgrow (by simp; omega) (fun g hg => by have := (hown.lt g hg).1; omega)
      have hs2 := hM.size
      have k2 := hb2.cell 0
      have f2 := hb2.frozen 0
      simp at k2
      have e : List.replicate j (bc 0) ++ [bc 0] = (List.replicate (j + 1) 0).map bc := by simp [List.replicate_succ']
      rw [e] at hown1
      have hb3 := hb2.set_ 0 v'
      have ho3 := own_set hown1 hb2 (by decide) 0 v'
      have hbel3 := hbel2.setCell (p := ⟨w.heap.size, 0, none⟩) (Nat.le_refl _) v'
      have hsz3 : w.heap.size + 1 ≤ (w2.setCell ⟨w.heap.size, 0, none⟩ v').heap.size := by simp; omega
      simp at hb3
      have HB := Lib.hid hb3
      have HO := Lib.hid ho3
      have HE := Lib.hid hbel3
      have HS := Lib.hid hsz3
      obtain ⟨a', c', rfl⟩ := len_of_own hown1
      clear hb3 ho3 hbel3 hsz3 hM hb2 hbel2 hown hown1 hbel hgrow hb k0 f0
      go_wp2
      go_roundw
      case rel => exact ⟨j + 1, _, by omega, by go_num, HB.out, HO.out, HE.out, HS.out⟩
      case measure => simp [intOf]; omega
    · obtain rfl : j = 16 * n := by omega
      have hR : RM wr B w.heap.size n (zeros n) := by
        rcases hown.2 with ⟨_, h0⟩ | ⟨g, cap, cur, rfl, hg, hh, hc, _, hs, ht⟩
        · omega
        · refine ⟨hB, ⟨hn1, hn2⟩, by simp [zeros], g, cap, cur, hb, hh, by omega, hc, fun i hi => ?_⟩
          have h1 : (cur.toList.take (16 * n))[i]? = (List.map bc (List.replicate (16 * n) 0))[i]? := by rw [← ht, Nat.mul_one]
          rw [List.getElem?_take, if_pos hi, Array.getElem?_toList] at h1
          rw [h1, bcs_get, List.getElem?_map]
          rfl
      have HR := Lib.hid hR
      clear hb hown k0 f0 hR
      go_wp2
      go_ret
      exact ⟨_, rfl, HR.out, hbel⟩
end Go.Proofs.Ytjibphpkebcoeaa
