/- Descriptors: Fork whole, Drop. -/
import Derived.Test.YtidmkdaegglepaaS1
set_option linter.all false
namespace Go.Proofs.Ytidmkdaegglepaa
open Go.RowKit

theorem fork_cond (p c : Int) : ((procB p && (procB c && !(p == c))) = false) ↔ (p < 1 ∨ 6 < p ∨ c < 1 ∨ 6 < c ∨ p = c) := by
  unfold procB
  rw [← Bool.not_eq_true]
  simp only [Bool.and_eq_true, decide_eq_true_eq, Bool.not_eq_true', beq_eq_false_iff_ne]
  omega
theorem fork_dt (w : World) (B b : Nat) (L : List DE) (p c : Int) (h : DT w B b L) (hG : Good L) :
    Calls Try.prog 26 #[.pointer (some ⟨b, 0, none⟩), .int .i64 p, .int .i64 c] w fun e w' => e = .returned (.int .i64 (forkE L p c)) ∧ DT w' B b (forkL L p c) ∧ Mod (DO w B b) w w' := by
  unfold forkE forkL
  by_cases hc : (procB p && (procB c && !(p == c))) = false
  · rw [if_pos ((fork_cond p c).1 hc), if_pos ((fork_cond p c).1 hc)]
    exact (fork_arg w _ p c hc).mono fun e w' ⟨h1, h2⟩ => ⟨h1, h.quiet h2, mod_q h2⟩
  · rw [if_neg (fun h => hc ((fork_cond p c).2 h)), if_neg (fun h => hc ((fork_cond p c).2 h))]
    rw [Bool.not_eq_false] at hc
    simp only [Bool.and_eq_true, Bool.not_eq_true'] at hc
    by_cases he : ofL L c = []
    · rw [if_pos he, if_pos he]
      exact fork_go w B b L p c h hG hc.1 hc.2.1 hc.2.2 he
    · rw [if_neg he, if_neg he]
      exact (fork_full w B b L p c h hc.1 hc.2.1 hc.2.2 he).mono fun e w' ⟨h1, h2⟩ => ⟨h1, h.quiet h2, mod_q h2⟩
theorem fork_nilA (w : World) (p c : Int) :
    Calls Try.prog 26 #[.pointer none, .int .i64 p, .int .i64 c] w fun e w' => e = .returned (.int .i64 (if (procB p && (procB c && !(p == c))) = false then 1 else 7)) ∧ Below w.heap.size w w' := by
  by_cases hc : (procB p && (procB c && !(p == c))) = false
  · rw [if_pos hc]
    exact fork_arg w _ p c hc
  · rw [if_neg hc]
    rw [Bool.not_eq_false] at hc
    simp only [Bool.and_eq_true, Bool.not_eq_true'] at hc
    exact fork_nilT w p c hc.1 hc.2.1 hc.2.2
attribute [local go_sem ↓] LK_eq UP_eq DL_eq
theorem dels_next {l : List DE} {L : List DE} (p : Int) {j : Nat} {x : DE} (hx : l[j]? = some x) : delsL p L (l.take (j + 1)) = clL (delsL p L (l.take j)) p x.slot := by
  rw [take_snoc_list hx, dels_snoc]
set_option maxHeartbeats 1600000 in
theorem drop_nilT (w : World) (p : Int) :
    Calls Try.prog 31 #[.pointer none, .int .i64 p] w fun e w' => e = .returned (.int .i64 0) ∧ Below w.heap.size w w' := by
  have hO := of_any w (.pointer none) [] p (.inl ⟨rfl, rfl⟩)
  have he : ofL [] p = [] := rfl
  rw [he] at hO
  have HO := Lib.hid hO
  clear hO he
  go_enter Try.func31, Try.ntmps31
  go_wp2_with fail
  refine HO.out.mono ?_
  rintro e w1 ⟨v1, rfl, hown, b1⟩
  obtain ⟨a1, c1, rfl⟩ := len_of_own hown
  clear HO hown
  go_wp2_with fail
  go_loopw [13] (fun i wr => i = .int .i64 0 ∧ wr = w1) (fun i _ => 0)
  case atStart => exact ⟨rfl, rfl⟩
  case round =>
    obtain ⟨rfl, rfl⟩ := hrel
    go_wp2
    go_ret
    exact ⟨rfl, b1⟩
set_option maxHeartbeats 3200000 in
set_option maxRecDepth 100000 in
theorem drop_dt (w : World) (B b : Nat) (L : List DE) (p : Int) (h : DT w B b L) (hG : Good L) :
    Calls Try.prog 31 #[.pointer (some ⟨b, 0, none⟩), .int .i64 p] w fun e w' => e = .returned (.int .i64 ((ofL L p).length : Nat)) ∧ DT w' B b (dropL L p) ∧ Mod (DO w B b) w w' := by
  have hO := of_any w _ L p (.inr ⟨B, b, rfl, h⟩)
  have hol := of_len L p
  have hfin : ∀ q s, look (dropL L p) q s = look (delsL p L (ofL L p)) q s := fun q s => look_drop hG p q s
  generalize ofL L p = l at *
  generalize dropL L p = L9 at *
  have HO := Lib.hid hO
  have HF := Lib.hid hfin
  clear hO hfin hG
  go_enter Try.func31, Try.ntmps31
  go_wp2_with fail
  refine HO.out.mono ?_
  rintro e w1 ⟨v1, rfl, hown1, b1⟩
  obtain ⟨a1, c1, rfl⟩ := len_of_own hown1
  have hd1 := h.quiet b1
  clear HO h
  go_wp2_with fail
  go_loopw [13] (fun i wr => ∃ k : Nat, k ≤ l.length ∧ i = .int .i64 k ∧ DT wr B b (delsL p L (l.take k)) ∧ wr.ownsRow w.heap.size 23 5 (.slice a1 l.length c1) l.length (l.flatMap dc) ∧ Mod (DO w B b) w wr) (fun i _ => l.length - (intOf i).toNat)
  case atStart => exact ⟨0, by omega, rfl, by rw [List.take_zero]; exact hd1, hown1, mod_q b1⟩
  case round =>
    obtain ⟨k, hk, rfl, hd, hown, hm⟩ := hrel
    by_cases hlt : k < l.length
    · obtain ⟨_, a, cap, ea, hc⟩ := own_inp dc_len hown rfl (by unfold maxLen; omega)
      obtain ⟨b', off, rfl, hb', hcc⟩ := hc (by omega)
      cases ea
      have hx : l[k]? = some (l[k]'hlt) := List.getElem?_eq_getElem hlt
      generalize l[k]'hlt = x at hx
      have c0 := hcc k hlt 0 (by omega)
      have c1 := hcc k hlt 1 (by omega)
      have c2 := hcc k hlt 2 (by omega)
      have c3 := hcc k hlt 3 (by omega)
      have c4 := hcc k hlt 4 (by omega)
      rw [atl_get hx (v := .int .i64 x.pid) rfl] at c0
      rw [atl_get hx (v := .int .i64 x.slot) rfl] at c1
      rw [atl_get hx (v := .int .i64 x.kind) rfl] at c2
      rw [atl_get hx (v := .int .i64 x.obj) rfl] at c3
      rw [atl_get hx (v := .int .i64 x.off) rfl] at c4
      simp only [Nat.add_zero] at c0
      have hnx := dels_next (L := L) p hx
      have HN := Lib.hid hnx
      clear hcc hc hx hnx
      obtain ⟨y1, y2, y3, y4, y5⟩ := x
      simp only at c0 c1 c2 c3 c4
      have ba := (alloc_below wr (.cells #[.int .i64 y1, .int .i64 y2, .int .i64 y3, .int .i64 y4, .int .i64 y5] 23))
      have hd2 := hd.quiet ba.drew
      obtain ⟨g, hg⟩ := hd2.blk
      have k0 := hg.cell 0
      simp at k0
      obtain ⟨W2, hu, hm2, hd3⟩ := dt_del hd2 p y2
      have U1 := hu g hg
      have ho2 := ownsRow_mod (hown.alloc (.cells #[.int .i64 y1, .int .i64 y2, .int .i64 y3, .int .i64 y4, .int .i64 y5] 23)).drew hm2 (fun g cur _ hbk => DO.type hd2 hbk (by decide))
      have hm3 := do_trans hm (mod_via ba.drew hm2)
      unfold kc at U1
      have hd4 := hd3 _ (fun q s => look_cl p y2 q s _)
      have HD := Lib.hid (And.intro hd4 (And.intro ho2 hm3))
      clear hu hm2 hd3 hd4 ho2 hm3 hg hd2 ba hd hown hown1 HF hm b1
      go_wp2_with fail
      go_region
      clear k0 U1 c0 c1 c2 c3 c4
      go_wp2
      go_roundw
      case rel => exact ⟨k + 1, by omega, by go_num, by rw [HN.out]; exact HD.out.1, HD.out.2.1, HD.out.2.2⟩
      case measure => simp [intOf]; omega
    · obtain rfl : k = l.length := by omega
      rw [List.take_length] at hd
      have hd9 := hd.congr fun q s => (HF.out q s).symm
      clear hd HF
      go_wp2
      go_ret
      exact ⟨rfl, hd9, hm⟩
end Go.Proofs.Ytidmkdaegglepaa
