/- Descriptors: Fork. -/
import Derived.Test.YtidmkdaegglepaaP1
set_option linter.all false
namespace Go.Proofs.Ytidmkdaegglepaa
open Go.RowKit

attribute [local go_sem ↓] LK_eq UP_eq DL_eq
set_option maxHeartbeats 1600000 in
theorem fork_arg (w : World) (q : Value) (p c : Int) (h : (procB p && (procB c && !(p == c))) = false) :
    Calls Try.prog 26 #[q, .int .i64 p, .int .i64 c] w fun e w' => e = .returned (.int .i64 1) ∧ Below w.heap.size w w' := by
  cases h1 : procB p
  · have H1 := Lib.hid h1
    clear h h1
    go_enter Try.func26, Try.ntmps26
    go_wp2_with fail
    refine (process_any p w).mono ?_
    rintro e w1 ⟨rfl, rfl⟩
    rw [H1.out]
    go_wp2
    go_ret
    exact ⟨rfl, Below.refl _ _⟩
  · cases h2 : procB c
    · have H1 := Lib.hid h1
      have H2 := Lib.hid h2
      clear h h1 h2
      go_enter Try.func26, Try.ntmps26
      go_wp2_with fail
      refine (process_any p w).mono ?_
      rintro e w1 ⟨rfl, rfl⟩
      rw [H1.out]
      go_wp2_with fail
      refine (process_any c w).mono ?_
      rintro e w1 ⟨rfl, rfl⟩
      rw [H2.out]
      go_wp2
      go_ret
      exact ⟨rfl, Below.refl _ _⟩
    · have h3 : (p == c) = true := by rw [h1, h2] at h; simpa using h
      have H1 := Lib.hid h1
      have H2 := Lib.hid h2
      clear h h1 h2
      go_enter Try.func26, Try.ntmps26
      go_wp2_with fail
      refine (process_any p w).mono ?_
      rintro e w1 ⟨rfl, rfl⟩
      rw [H1.out]
      go_wp2_with fail
      refine (process_any c w).mono ?_
      rintro e w1 ⟨rfl, rfl⟩
      rw [H2.out]
      go_wp2
      go_ret
      exact ⟨rfl, Below.refl _ _⟩
set_option maxHeartbeats 1600000 in
theorem fork_nilT (w : World) (p c : Int) (h1 : procB p = true) (h2 : procB c = true) (h3 : (p == c) = false) :
    Calls Try.prog 26 #[.pointer none, .int .i64 p, .int .i64 c] w fun e w' => e = .returned (.int .i64 7) ∧ Below w.heap.size w w' := by
  have H1 := Lib.hid h1
  have H2 := Lib.hid h2
  clear h1 h2
  go_enter Try.func26, Try.ntmps26
  go_wp2_with fail
  refine (process_any p w).mono ?_
  rintro e w1 ⟨rfl, rfl⟩
  rw [H1.out]
  go_wp2_with fail
  refine (process_any c w).mono ?_
  rintro e w1 ⟨rfl, rfl⟩
  rw [H2.out]
  go_wp2
  go_ret
  exact ⟨rfl, Below.refl _ _⟩
set_option maxHeartbeats 1600000 in
theorem fork_full (w : World) (B b : Nat) (L : List DE) (p c : Int) (h : DT w B b L) (h1 : procB p = true) (h2 : procB c = true) (h3 : (p == c) = false) (he : ofL L c ≠ []) :
    Calls Try.prog 26 #[.pointer (some ⟨b, 0, none⟩), .int .i64 p, .int .i64 c] w fun e w' => e = .returned (.int .i64 7) ∧ Below w.heap.size w w' := by
  have hO := of_any w _ L c (.inr ⟨B, b, rfl, h⟩)
  have hol := of_len L c
  have hn : 0 < (ofL L c).length := List.length_pos_iff.2 he
  generalize ofL L c = u at *
  generalize hu : u.length = n at *
  have HO := Lib.hid hO
  have H1 := Lib.hid h1
  have H2 := Lib.hid h2
  have d0 : decide ((0 : Int) < (n : Int)) = true := by simp; omega
  clear h1 h2 hO hu he h
  go_enter Try.func26, Try.ntmps26
  go_wp2_with fail
  refine (process_any p w).mono ?_
  rintro e w1 ⟨rfl, rfl⟩
  rw [H1.out]
  go_wp2_with fail
  refine (process_any c w).mono ?_
  rintro e w1 ⟨rfl, rfl⟩
  rw [H2.out]
  go_wp2_with fail
  refine HO.out.mono ?_
  rintro e w1 ⟨v1, rfl, hown, b1⟩
  obtain ⟨a1, c1, rfl⟩ := len_of_own hown
  clear HO hown
  go_wp2
  go_ret
  exact ⟨rfl, b1⟩
set_option maxHeartbeats 3200000 in
set_option maxRecDepth 100000 in
theorem fork_go (w : World) (B b : Nat) (L : List DE) (p c : Int) (h : DT w B b L) (hG : Good L) (h1 : procB p = true) (h2 : procB c = true) (h3 : (p == c) = false) (he : ofL L c = []) :
    Calls Try.prog 26 #[.pointer (some ⟨b, 0, none⟩), .int .i64 p, .int .i64 c] w fun e w' => e = .returned (.int .i64 0) ∧ DT w' B b (forkF c L (ofL L p)) ∧ Mod (DO w B b) w w' := by
  have hO := of_any w _ L c (.inr ⟨B, b, rfl, h⟩)
  have hP := fun u (hu : DT u B b L) => of_any u _ L p (.inr ⟨B, b, rfl, hu⟩)
  have hol := of_len L p
  have hfn : ∀ (j : Nat) (x : DE), (ofL L p)[j]? = some x → look (forkF c L ((ofL L p).take j)) (setp c x).pid (setp c x).slot = none := fun j x hx => fork_none hG he hx
  rw [he] at hO
  generalize ofL L p = l at *
  have HO := Lib.hid hO
  have HP := Lib.hid hP
  have HF := Lib.hid hfn
  have H1 := Lib.hid h1
  have H2 := Lib.hid h2
  clear h1 h2 hO hP hfn hG he
  go_enter Try.func26, Try.ntmps26
  go_wp2_with fail
  refine (process_any p w).mono ?_
  rintro e w1 ⟨rfl, rfl⟩
  rw [H1.out]
  go_wp2_with fail
  refine (process_any c w).mono ?_
  rintro e w1 ⟨rfl, rfl⟩
  rw [H2.out]
  go_wp2_with fail
  refine HO.out.mono ?_
  rintro e w1 ⟨v1, rfl, hown, b1⟩
  obtain ⟨a1, c1, rfl⟩ := len_of_own hown
  have hd1 := h.quiet b1
  clear HO hown
  go_wp2_with fail
  refine (HP.out w1 hd1).mono ?_
  rintro e w2 ⟨v2, rfl, hown2, b2⟩
  have hd2 := hd1.quiet b2
  have b3 := b1.trans (b2.mono b1.size)
  obtain ⟨a2, c2, rfl⟩ := len_of_own hown2
  clear HP hd1 h b1 b2
  go_wp2_with fail
  go_loopw [37] (fun i wr => ∃ k : Nat, k ≤ l.length ∧ i = .int .i64 k ∧ DT wr B b (forkF c L (l.take k)) ∧ wr.ownsRow w1.heap.size 23 5 (.slice a2 l.length c2) l.length (l.flatMap dc) ∧ Mod (DO w B b) w wr) (fun i _ => l.length - (intOf i).toNat)
  case atStart => exact ⟨0, by omega, rfl, by rw [List.take_zero]; exact hd2, hown2, mod_q b3⟩
  case round =>
    obtain ⟨k, hk, rfl, hd, hown, hm⟩ := hrel
    by_cases hlt : k < l.length
    · obtain ⟨_, a, cap, ea, hc⟩ := own_inp dc_len hown rfl (by unfold maxLen; omega)
      obtain ⟨b', off, rfl, hb', hcc⟩ := hc (by omega)
      cases ea
      have hx : l[k]? = some (l[k]'hlt) := List.getElem?_eq_getElem hlt
      generalize l[k]'hlt = x at hx
      have c0 := hcc k hlt 0 (by omega)
      have c1 := hcc k hlt 1 (by omega)
      have c2 := hcc k hlt 2 (by omega)
      have c3 := hcc k hlt 3 (by omega)
      have c4 := hcc k hlt 4 (by omega)
      rw [atl_get hx (v := .int .i64 x.pid) rfl] at c0
      rw [atl_get hx (v := .int .i64 x.slot) rfl] at c1
      rw [atl_get hx (v := .int .i64 x.kind) rfl] at c2
      rw [atl_get hx (v := .int .i64 x.obj) rfl] at c3
      rw [atl_get hx (v := .int .i64 x.off) rfl] at c4
      simp only [Nat.add_zero] at c0
      have hnx := fork_next (L := L) c hx
      have hno := HF.out k x hx
      have HN := Lib.hid (And.intro hnx hno)
      clear hcc hc hx hnx hno
      obtain ⟨y1, y2, y3, y4, y5⟩ := x
      simp only at c0 c1 c2 c3 c4
      have ba := (alloc_below wr (.cells #[.int .i64 c, .int .i64 y2, .int .i64 y3, .int .i64 y4, .int .i64 y5] 23))
      have hd2 := hd.quiet ba.drew
      obtain ⟨g, hg⟩ := hd2.blk
      have k0 := hg.cell 0
      simp at k0
      obtain ⟨W2, hu, hm2, hd3⟩ := dt_up hd2 ⟨c, y2, y3, y4, y5⟩
      have U1 := hu g hg
      have ho2 := ownsRow_mod (hown.alloc (.cells #[.int .i64 c, .int .i64 y2, .int .i64 y3, .int .i64 y4, .int .i64 y5] 23)).drew hm2 (fun g cur _ hbk => DO.type hd2 hbk (by decide))
      have hm3 := do_trans hm (mod_via ba.drew hm2)
      unfold da kc at U1
      simp only at U1
      have hd4 := hd3 _ (fun q s => look_ins ⟨c, y2, y3, y4, y5⟩ q s _ HN.out.2)
      have HD := Lib.hid (And.intro hd4 (And.intro ho2 hm3))
      clear hu hm2 hd3 hd4 ho2 hm3 hg hd2 ba hd hown hown2 HF H1 H2 hm b3
      go_wp2_with fail
      go_region
      clear k0 U1 c0 c1 c2 c3 c4
      go_wp2
      go_roundw
      case rel => exact ⟨k + 1, by omega, by go_num, by rw [HN.out.1]; exact HD.out.1, HD.out.2.1, HD.out.2.2⟩
      case measure => simp [intOf]; omega
    · obtain rfl : k = l.length := by omega
      rw [List.take_length] at hd
      go_wp2
      go_ret
      exact ⟨rfl, hd, hm⟩
end Go.Proofs.Ytidmkdaegglepaa
