/- Open objects: Fork, Drop. -/
import Derived.Test.YtidmkdaegglepaaO8
set_option linter.all false
namespace Go.Proofs.Ytidmkdaegglepaa
open Go.RowKit

attribute [local go_sem ↓] guard_pq guard_pq_nil eql_pq_nil neq_pq_nil
/-- The slots behind a Fork's first k rounds. -/
def fsl (sl : Nat → Option Nat) (p c : Nat) : Nat → Nat → Option Nat
  | 0 => sl
  | k + 1 => upd (fsl sl p c k) (c * 6 + k) (sl (p * 6 + k))
theorem fsl_later (sl : Nat → Option Nat) (p c : Nat) : ∀ k j, k ≤ j → fsl sl p c k (c * 6 + j) = sl (c * 6 + j) := by
  intro k
  induction k with
  | zero => intro j _; rfl
  | succ k ih =>
    intro j hj
    rw [fsl, upd_ne _ _ (by omega)]
    exact ih j (by omega)
def ofS (S : OS) (p c : Nat) : OS := ⟨fsl S.sl p c 6, S.ob⟩
theorem obN_none {sl : Nat → Option Nat} {ob : Nat → Option OB} {i : Nat} {x : Option Nat} (h : sl i = none) : obN sl ob i x = ob := by unfold obN; rw [h]
set_option maxHeartbeats 3200000 in
set_option maxRecDepth 100000 in
theorem ofork_arg (w : World) (q : Value) (p c : Int) (h : (procB p && (procB c && !(p == c))) = false) :
    Calls Try.prog 51 #[q, .int .i64 p, .int .i64 c] w fun e w' => e = .returned (.int .i64 1) ∧ w = w' := by
  cases h1 : procB p
  · have H1 := Lib.hid h1
    clear h h1
    go_enter Try.func51, Try.ntmps51
    go_wp2_with fail
    refine (oprocess_any p w).mono ?_
    rintro e w1 ⟨rfl, rfl⟩
    rw [H1.out]
    go_wp2
    go_ret
    exact ⟨rfl, rfl⟩
  · cases h2 : procB c
    · have H1 := Lib.hid h1
      have H2 := Lib.hid h2
      clear h h1 h2
      go_enter Try.func51, Try.ntmps51
      go_wp2_with fail
      refine (oprocess_any p w).mono ?_
      rintro e w1 ⟨rfl, rfl⟩
      rw [H1.out]
      go_wp2_with fail
      refine (oprocess_any c w).mono ?_
      rintro e w1 ⟨rfl, rfl⟩
      rw [H2.out]
      go_wp2
      go_ret
      exact ⟨rfl, rfl⟩
    · have h3 : (p == c) = true := by rw [h1, h2] at h; simpa using h
      have H1 := Lib.hid h1
      have H2 := Lib.hid h2
      clear h h1 h2
      go_enter Try.func51, Try.ntmps51
      go_wp2_with fail
      refine (oprocess_any p w).mono ?_
      rintro e w1 ⟨rfl, rfl⟩
      rw [H1.out]
      go_wp2_with fail
      refine (oprocess_any c w).mono ?_
      rintro e w1 ⟨rfl, rfl⟩
      rw [H2.out]
      go_wp2
      go_ret
      exact ⟨rfl, rfl⟩
set_option maxHeartbeats 1600000 in
theorem ofork_nilT (w : World) (p c : Int) (h1 : procB p = true) (h2 : procB c = true) (h3 : (p == c) = false) :
    Calls Try.prog 51 #[.pointer none, .int .i64 p, .int .i64 c] w fun e w' => e = .returned (.int .i64 7) ∧ w = w' := by
  have H1 := Lib.hid h1
  have H2 := Lib.hid h2
  clear h1 h2
  go_enter Try.func51, Try.ntmps51
  go_wp2_with fail
  refine (oprocess_any p w).mono ?_
  rintro e w1 ⟨rfl, rfl⟩
  rw [H1.out]
  go_wp2_with fail
  refine (oprocess_any c w).mono ?_
  rintro e w1 ⟨rfl, rfl⟩
  rw [H2.out]
  go_wp2
  go_ret
  exact ⟨rfl, rfl⟩
theorem ofork_nilA (w : World) (p c : Int) :
    Calls Try.prog 51 #[.pointer none, .int .i64 p, .int .i64 c] w fun e w' => e = .returned (.int .i64 (if (procB p && (procB c && !(p == c))) = false then 1 else 7)) ∧ w = w' := by
  by_cases hc : (procB p && (procB c && !(p == c))) = false
  · rw [if_pos hc]
    exact ofork_arg w _ p c hc
  · rw [if_neg hc]
    rw [Bool.not_eq_false] at hc
    simp only [Bool.and_eq_true, Bool.not_eq_true'] at hc
    exact ofork_nilT w p c hc.1 hc.2.1 hc.2.2
set_option maxHeartbeats 3200000 in
set_option maxRecDepth 100000 in
theorem ofork_go (w : World) (B b : Nat) (S : OS) (ad : Nat → Nat) (p c : Nat) (h : OW w B b S ad) (hp : 1 ≤ p ∧ p ≤ 6) (hc : 1 ≤ c ∧ c ≤ 6) (hpc : p ≠ c) (hh : hasB S.sl c = false) :
    Calls Try.prog 51 #[.pointer (some ⟨b, 0, none⟩), .int .i64 (p : Int), .int .i64 (c : Int)] w (OR w B b ad (.int .i64 0) (ofS S p c)) := by
  have H1 := Lib.hid (show procB (p : Int) = true by unfold procB; simp; omega)
  have H2 := Lib.hid (show procB (c : Int) = true by unfold procB; simp; omega)
  have h3 : ((p : Int) == (c : Int)) = false := by simp; omega
  have hH := ohas_any w B b S ad c h hc.2
  rw [hh] at hH
  have HH := Lib.hid hH
  have hcl : ∀ j, j < 6 → w.cell? ⟨b, p * 6 + j, none⟩ = some (pq ((S.sl (p * 6 + j)).map ad)) := fun j hj => by
    have := h.cell (i := p * 6 + j) (by omega)
    rwa [slot_tf (by omega)] at this
  have c0 := hcl 0 (by omega)
  have c1 := hcl 1 (by omega)
  have c2 := hcl 2 (by omega)
  have c3 := hcl 3 (by omega)
  have c4 := hcl 4 (by omega)
  have c5 := hcl 5 (by omega)
  simp only [Nat.add_zero] at c0
  have hI : ∀ (u : World) (j : Nat), j < 6 → (Instr.index 107 (.agg (row6 fun (j : Nat) => (S.sl (p * 6 + j)).map ad)) (.int .i64 (j : Int))).run Try.prog u = .ok (pq ((S.sl (p * 6 + j)).map ad)) u := fun u j hj => idx1 Try.und107 _ hj (row6_get _ hj) u
  unfold row6 at hI
  simp only [Nat.add_zero] at hI
  have hN : ∀ (u : World) (k : Nat), k < 6 → OT u B b (fsl S.sl p c k) S.ob ad → Calls Try.prog 79 #[.pointer (some ⟨b, 0, none⟩), .pointer (some ⟨b, c * 6 + k, none⟩), pq ((S.sl (p * 6 + k)).map ad)] u (NameR u B b (fsl S.sl p c (k + 1)) S.ob ad) := by
    intro u k hk hu
    have hw : fsl S.sl p c k (c * 6 + k) = none := by
      rw [fsl_later _ _ _ _ _ (Nat.le_refl _)]
      exact has_none hh k hk
    have := name_any u B b (fsl S.sl p c k) S.ob ad (c * 6 + k) (S.sl (p * 6 + k)) hu (by omega) (by omega) (fun d hd => h.val _ d (by omega) hd)
    rwa [obN_none hw] at this
  have HI := Lib.hid hI
  have HN := Lib.hid hN
  have hp7 : (p : Int) < 7 := by omega
  have hc7 : (c : Int) < 7 := by omega
  clear hH hI hN hcl hh
  go_enter Try.func51, Try.ntmps51
  go_wp2_with fail
  refine (oprocess_any _ w).mono ?_
  rintro e w1 ⟨rfl, rfl⟩
  rw [H1.out]
  go_wp2_with fail
  refine (oprocess_any _ w).mono ?_
  rintro e w1 ⟨rfl, rfl⟩
  rw [H2.out]
  go_wp2_with fail
  refine HH.out.mono ?_
  rintro e w1 ⟨rfl, rfl⟩
  go_wp2_with fail
  clear c0 c1 c2 c3 c4 c5
  go_loopw [37] (fun i wr => ∃ k : Nat, k ≤ 6 ∧ i = .int .i64 k ∧ OT wr B b (fsl S.sl p c k) S.ob ad ∧ Mod (OF w B b) w wr) (fun i _ => 6 - (intOf i).toNat)
  case atStart => exact ⟨0, by omega, rfl, h, Mod.refl _ _⟩
  case round =>
    obtain ⟨k, hk, rfl, ho, hm⟩ := hrel
    by_cases hlt : k < 6
    · have d0 : decide ((k : Int) < 6) = true := by simp; omega
      have hk6 : (k : Int) < 6 := by omega
      have I := HI.out wr k hlt
      have hN := HN.out wr k hlt ho
      have HN2 := Lib.hid hN
      generalize hx : pq (Option.map ad (S.sl (p * 6 + k))) = x at *
      clear hN hx h ho
      go_wp2_with fail
      refine HN2.out.mono ?_
      rintro e w2 ⟨rfl, h2, m2⟩
      have m3 := OF.trans hm m2
      clear HN2 I
      go_wp2
      go_roundw
      case rel => exact ⟨k + 1, by omega, by go_num, h2, m3⟩
      case measure => simp [intOf]; omega
    · obtain rfl : k = 6 := by omega
      clear HI HN
      go_wp2
      go_ret
      exact ⟨rfl, ho, hm⟩
set_option maxHeartbeats 3200000 in
set_option maxRecDepth 100000 in
theorem ofork_full (w : World) (B b : Nat) (S : OS) (ad : Nat → Nat) (p c : Nat) (h : OW w B b S ad) (hp : 1 ≤ p ∧ p ≤ 6) (hc : 1 ≤ c ∧ c ≤ 6) (hpc : p ≠ c) (hh : hasB S.sl c = true) :
    Calls Try.prog 51 #[.pointer (some ⟨b, 0, none⟩), .int .i64 (p : Int), .int .i64 (c : Int)] w fun e w' => e = .returned (.int .i64 7) ∧ w = w' := by
  have H1 := Lib.hid (show procB (p : Int) = true by unfold procB; simp; omega)
  have H2 := Lib.hid (show procB (c : Int) = true by unfold procB; simp; omega)
  have h3 : ((p : Int) == (c : Int)) = false := by simp; omega
  have hH := ohas_any w B b S ad c h hc.2
  rw [hh] at hH
  have HH := Lib.hid hH
  clear hH hh h
  go_enter Try.func51, Try.ntmps51
  go_wp2_with fail
  refine (oprocess_any _ w).mono ?_
  rintro e w1 ⟨rfl, rfl⟩
  rw [H1.out]
  go_wp2_with fail
  refine (oprocess_any _ w).mono ?_
  rintro e w1 ⟨rfl, rfl⟩
  rw [H2.out]
  go_wp2_with fail
  refine HH.out.mono ?_
  rintro e w1 ⟨rfl, rfl⟩
  go_wp2
  go_ret
  exact ⟨rfl, rfl⟩
def ofE (S : OS) (p c : Int) : Int := if (procB p && (procB c && !(p == c))) = false then 1 else if hasB S.sl c.toNat = true then 7 else 0
def ofX (S : OS) (p c : Int) : OS := if (procB p && (procB c && !(p == c))) = false then S else if hasB S.sl c.toNat = true then S else ofS S p.toNat c.toNat
theorem ofork_any (w : World) (B b : Nat) (S : OS) (ad : Nat → Nat) (p c : Int) (h : OW w B b S ad) :
    Calls Try.prog 51 #[.pointer (some ⟨b, 0, none⟩), .int .i64 p, .int .i64 c] w (OR w B b ad (.int .i64 (ofE S p c)) (ofX S p c)) := by
  unfold ofE ofX
  by_cases ha : (procB p && (procB c && !(p == c))) = false
  · rw [if_pos ha, if_pos ha]
    exact (ofork_arg w _ p c ha).mono fun e w' ⟨h1, h2⟩ => ⟨h1, h2 ▸ h, h2 ▸ Mod.refl _ _⟩
  · rw [if_neg ha, if_neg ha]
    have hb := mt (fork_cond p c).2 ha
    obtain ⟨pn, rfl⟩ := Int.eq_ofNat_of_zero_le (show 0 ≤ p by omega)
    obtain ⟨cn, rfl⟩ := Int.eq_ofNat_of_zero_le (show 0 ≤ c by omega)
    rw [Int.toNat_natCast, Int.toNat_natCast]
    by_cases hh : hasB S.sl cn = true
    · rw [if_pos hh, if_pos hh]
      exact (ofork_full w B b S ad pn cn h (by omega) (by omega) (by omega) hh).mono fun e w' ⟨h1, h2⟩ => ⟨h1, h2 ▸ h, h2 ▸ Mod.refl _ _⟩
    · rw [if_neg hh, if_neg hh]
      exact ofork_go w B b S ad pn cn h (by omega) (by omega) (by omega) (by simpa using hh)
/-- Drop. -/
def dropTo (S : OS) (p : Int) : Nat → OS
  | 0 => S
  | k + 1 => clsS (dropTo S p k) p k
def dropN (S : OS) (p : Int) : Nat → Nat
  | 0 => 0
  | k + 1 => dropN S p k + if (lk (dropTo S p k).sl p k).isSome then 1 else 0
theorem dropN_succ (S : OS) (p : Int) (k : Nat) : dropN S p (k + 1) = dropN S p k + if (lk (dropTo S p k).sl p k).isSome then 1 else 0 := rfl
theorem dropN_le (S : OS) (p : Int) : ∀ k, dropN S p k ≤ k
  | 0 => Nat.le_refl _
  | k + 1 => by
    have := dropN_le S p k
    unfold dropN
    split <;> omega
set_option maxHeartbeats 3200000 in
set_option maxRecDepth 100000 in
theorem odrop_nil (w : World) (p : Int) : Calls Try.prog 48 #[.pointer none, .int .i64 p] w fun e w' => e = .returned (.int .i64 0) ∧ w = w' := by
  have HC := Lib.hid (fun s => oclose_none w (.pointer none) p s (oof_nil w p s))
  go_enter Try.func48, Try.ntmps48
  go_wp2_with fail
  go_loopw [7, 5] (fun i n wr => ∃ k : Nat, k ≤ 6 ∧ i = .int .i64 k ∧ n = .int .i64 0 ∧ wr = w) (fun i _ _ => 6 - (intOf i).toNat)
  case atStart => exact ⟨0, by omega, rfl, rfl, rfl⟩
  case round =>
    obtain ⟨k, hk, rfl, rfl, rfl⟩ := hrel
    by_cases hlt : k < 6
    · have d0 : decide ((k : Int) < 6) = true := by simp; omega
      go_wp2_with fail
      refine (HC.out _).mono ?_
      rintro e w2 ⟨rfl, rfl⟩
      go_wp2
      go_roundw
      case rel => exact ⟨k + 1, by omega, by go_num, (by first | trivial | rfl), (by first | trivial | rfl)⟩
      case measure => simp [intOf]; omega
    · obtain rfl : k = 6 := by omega
      go_wp2
      go_ret
      exact ⟨rfl, rfl⟩
set_option maxHeartbeats 3200000 in
set_option maxRecDepth 100000 in
theorem odrop_any (w : World) (B b : Nat) (S : OS) (ad : Nat → Nat) (p : Int) (h : OW w B b S ad) :
    Calls Try.prog 48 #[.pointer (some ⟨b, 0, none⟩), .int .i64 p] w (OR w B b ad (.int .i64 (dropN S p 6 : Nat)) (dropTo S p 6)) := by
  have HC := Lib.hid (fun u (k : Nat) (hu : OW u B b (dropTo S p k) ad) => oclose_any u B b (dropTo S p k) ad p k hu)
  go_enter Try.func48, Try.ntmps48
  go_wp2_with fail
  go_loopw [7, 5] (fun i n wr => ∃ k : Nat, k ≤ 6 ∧ i = .int .i64 k ∧ n = .int .i64 (dropN S p k : Nat) ∧ OW wr B b (dropTo S p k) ad ∧ Mod (OF w B b) w wr) (fun i _ _ => 6 - (intOf i).toNat)
  case atStart => exact ⟨0, by omega, rfl, rfl, h, Mod.refl _ _⟩
  case round =>
    obtain ⟨k, hk, rfl, rfl, ho, hm⟩ := hrel
    by_cases hlt : k < 6
    · have d0 : decide ((k : Int) < 6) = true := by simp; omega
      have hle := dropN_le S p k
      have hC := HC.out wr k ho
      have hX := dropN_succ S p k
      unfold clsE at hC
      have e9 : clsS (dropTo S p k) p k = dropTo S p (k + 1) := rfl
      rw [e9] at hC
      cases hl : (lk (dropTo S p k).sl p k).isSome
      · rw [hl] at hC hX
        simp only [Bool.false_eq_true, if_false, Nat.add_zero] at hC hX
        have HC2 := Lib.hid hC
        have HX2 := Lib.hid hX
        clear hC hX hl ho h e9
        generalize dropN S p k = n at *
        go_wp2_with fail
        refine HC2.out.mono ?_
        rintro e w2 ⟨rfl, h2, m2⟩
        have m3 := OF.trans hm m2
        clear HC2
        go_wp2
        go_roundw
        case rel => exact ⟨k + 1, by omega, by go_num, by rw [HX2.out], h2, m3⟩
        case measure => simp [intOf]; omega
      · rw [hl] at hC hX
        simp only [if_true] at hC hX
        have HC2 := Lib.hid hC
        have HX2 := Lib.hid hX
        clear hC hX hl ho h e9
        generalize dropN S p k = n at *
        go_wp2_with fail
        refine HC2.out.mono ?_
        rintro e w2 ⟨rfl, h2, m2⟩
        have m3 := OF.trans hm m2
        clear HC2
        go_wp2
        go_roundw
        case rel => exact ⟨k + 1, by omega, by go_num, by rw [HX2.out]; go_num, h2, m3⟩
        case measure => simp [intOf]; omega
    · obtain rfl : k = 6 := by omega
      clear HC
      go_wp2
      go_ret
      exact ⟨rfl, ho, hm⟩
end Go.Proofs.Ytidmkdaegglepaa
