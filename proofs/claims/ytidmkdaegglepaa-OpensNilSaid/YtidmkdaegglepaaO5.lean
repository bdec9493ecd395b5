/- Open objects: Close, Dup, Dup2, Seek. -/
import Derived.Test.YtidmkdaegglepaaO4
set_option linter.all false
namespace Go.Proofs.Ytidmkdaegglepaa
open Go.RowKit

attribute [local go_sem ↓] guard_pq guard_pq_nil eql_pq_nil neq_pq_nil
/-- The table's two halves. -/
structure OS where
  sl : Nat → Option Nat
  ob : Nat → Option OB
def setO (S : OS) (i : Nat) (x : Option Nat) : OS := ⟨upd S.sl i x, obN S.sl S.ob i x⟩
abbrev OW (w : World) (B b : Nat) (S : OS) (ad : Nat → Nat) : Prop := OT w B b S.sl S.ob ad
def OR (w : World) (B b : Nat) (ad : Nat → Nat) (r : Value) (S' : OS) (e : Ending) (w' : World) : Prop := e = .returned r ∧ OW w' B b S' ad ∧ Mod (OF w B b) w w'
def clsE (S : OS) (p s : Int) : Int := if (lk S.sl p s).isSome then 0 else 6
def clsS (S : OS) (p s : Int) : OS := if (lk S.sl p s).isSome then setO S (sIx p s) none else S
theorem atPtr_ok {b : Nat} {p s : Int} (h : okS p s = true) : atPtr b p s = .pointer (some ⟨b, sIx p s, none⟩) := by unfold atPtr; rw [h]; rfl
set_option maxHeartbeats 3200000 in
set_option maxRecDepth 100000 in
theorem oclose_none (w : World) (q : Value) (p s : Int) (hO : Calls Try.prog 74 #[q, .int .i64 p, .int .i64 s] w fun e w' => e = .returned (.pointer none) ∧ w = w') :
    Calls Try.prog 53 #[q, .int .i64 p, .int .i64 s] w fun e w' => e = .returned (.int .i64 6) ∧ w = w' := by
  have HO := Lib.hid hO
  clear hO
  go_enter Try.func53, Try.ntmps53
  go_wp2_with fail
  refine HO.out.mono ?_
  rintro e w1 ⟨rfl, rfl⟩
  go_wp2
  go_ret
  exact ⟨rfl, rfl⟩
set_option maxHeartbeats 3200000 in
set_option maxRecDepth 100000 in
theorem oclose_any (w : World) (B b : Nat) (S : OS) (ad : Nat → Nat) (p s : Int) (h : OW w B b S ad) :
    Calls Try.prog 53 #[.pointer (some ⟨b, 0, none⟩), .int .i64 p, .int .i64 s] w (OR w B b ad (.int .i64 (clsE S p s)) (clsS S p s)) := by
  have hO := oof_any w B b S.sl S.ob ad p s h
  unfold clsE clsS
  rcases hl : lk S.sl p s with _ | d
  · rw [hl] at hO
    exact (oclose_none w _ p s hO).mono fun e w' ⟨h1, h2⟩ => ⟨h1, h2 ▸ h, h2 ▸ Mod.refl _ _⟩
  · rw [hl] at hO
    obtain ⟨ho, hs⟩ := lk_some hl
    have hix := ok_ix ho
    have hA := oat_any w b p s
    rw [atPtr_ok ho] at hA
    have hN := name_any w B b S.sl S.ob ad (sIx p s) none h hix.1 hix.2.1 (fun d hd => by cases hd)
    unfold pq at hO hN
    simp only [Option.map_some, Option.map_none] at hO hN
    simp only [Option.isSome_some, if_true]
    have HO := Lib.hid hO
    have HA := Lib.hid hA
    have HN := Lib.hid hN
    clear hO hA hN hl ho hs h
    generalize sIx p s = i at *
    go_enter Try.func53, Try.ntmps53
    go_wp2_with fail
    refine HO.out.mono ?_
    rintro e w1 ⟨rfl, rfl⟩
    go_wp2_with fail
    refine HA.out.mono ?_
    rintro e w1 ⟨rfl, rfl⟩
    go_wp2_with fail
    refine HN.out.mono ?_
    rintro e w1 ⟨rfl, h1, m1⟩
    clear HO HA HN
    go_wp2
    go_ret
    exact ⟨rfl, h1, m1⟩
/-- Dup. -/
def odE (S : OS) (p s : Int) : Int := if (lk S.sl p s).isSome then (if (freeS S.sl p.toNat).isSome then 0 else 5) else 6
def odV (S : OS) (p s : Int) : Int := if (lk S.sl p s).isSome then ((freeS S.sl p.toNat).getD 0 : Nat) else 0
def odS (S : OS) (p s : Int) : OS := match lk S.sl p s, freeS S.sl p.toNat with | some d, some j => setO S (p.toNat * 6 + j) (some d) | _, _ => S
set_option maxHeartbeats 3200000 in
set_option maxRecDepth 100000 in
theorem odup_none (w : World) (q : Value) (p s : Int) (hO : Calls Try.prog 74 #[q, .int .i64 p, .int .i64 s] w fun e w' => e = .returned (.pointer none) ∧ w = w') :
    Calls Try.prog 50 #[q, .int .i64 p, .int .i64 s] w fun e w' => e = .returned (.tuple #[.int .i64 0, .int .i64 6]) ∧ w = w' := by
  have HO := Lib.hid hO
  clear hO
  go_enter Try.func50, Try.ntmps50
  go_wp2_with fail
  refine HO.out.mono ?_
  rintro e w1 ⟨rfl, rfl⟩
  go_wp2
  go_ret2
  exact ⟨rfl, rfl⟩
set_option maxHeartbeats 3200000 in
set_option maxRecDepth 100000 in
theorem odup_any (w : World) (B b : Nat) (S : OS) (ad : Nat → Nat) (p s : Int) (h : OW w B b S ad) :
    Calls Try.prog 50 #[.pointer (some ⟨b, 0, none⟩), .int .i64 p, .int .i64 s] w (OR w B b ad (.tuple #[.int .i64 (odV S p s), .int .i64 (odE S p s)]) (odS S p s)) := by
  have hO := oof_any w B b S.sl S.ob ad p s h
  unfold odE odV odS
  rcases hl : lk S.sl p s with _ | d
  · rw [hl] at hO
    exact (odup_none w _ p s hO).mono fun e w' ⟨h1, h2⟩ => ⟨h1, h2 ▸ h, h2 ▸ Mod.refl _ _⟩
  · rw [hl] at hO
    obtain ⟨ho, hs⟩ := lk_some hl
    have hix := ok_ix ho
    obtain ⟨pn, rfl⟩ := Int.eq_ofNat_of_zero_le (show 0 ≤ p by omega)
    rw [Int.toNat_natCast]
    have hF := ofree_any w B b S.sl S.ob ad pn h (by omega) (by omega)
    simp only [Option.isSome_some, if_true]
    have hval := h.val _ d hix.1 hs
    unfold pq at hO
    simp only [Option.map_some] at hO
    have HO := Lib.hid hO
    rcases free_cases S.sl pn with ⟨e1, _⟩ | ⟨j, hj, e1, _, _⟩
    · rw [e1] at hF ⊢
      unfold freeR at hF
      simp only [Option.isSome_none, Option.getD_none, Bool.false_eq_true, if_false] at hF ⊢
      have HF := Lib.hid hF
      clear hO hF hl ho hs hix hval e1
      go_enter Try.func50, Try.ntmps50
      go_wp2_with fail
      refine HO.out.mono ?_
      rintro e w1 ⟨rfl, rfl⟩
      go_wp2_with fail
      refine HF.out.mono ?_
      rintro e w1 ⟨rfl, rfl⟩
      clear HO HF
      go_wp2
      go_ret2
      exact ⟨rfl, h, Mod.refl _ _⟩
    · rw [e1] at hF ⊢
      unfold freeR at hF
      have hN := name_any w B b S.sl S.ob ad (pn * 6 + j) (some d) h (by omega) (by omega) (fun e he => by cases he; exact hval)
      unfold pq at hN
      simp only [Option.isSome_some, Option.getD_some, if_true, Option.map_some] at hF hN ⊢
      have HF := Lib.hid hF
      have HN := Lib.hid hN
      clear hO hF hN hl ho hs hix hval e1 h
      generalize hgi : pn * 6 + j = i at *
      clear hgi
      go_enter Try.func50, Try.ntmps50
      go_wp2_with fail
      refine HO.out.mono ?_
      rintro e w1 ⟨rfl, rfl⟩
      go_wp2_with fail
      refine HF.out.mono ?_
      rintro e w1 ⟨rfl, rfl⟩
      go_wp2_with fail
      refine HN.out.mono ?_
      rintro e w1 ⟨rfl, h1, m1⟩
      clear HO HF HN
      go_wp2
      go_ret2
      exact ⟨rfl, h1, m1⟩
/-- Dup2. -/
def o2E (S : OS) (p s to : Int) : Int := if (lk S.sl p s).isSome then (if withB to 6 then 0 else 1) else 6
def o2S (S : OS) (p s to : Int) : OS := match lk S.sl p s with | some d => if withB to 6 then setO S (sIx p to) (some d) else S | none => S
set_option maxHeartbeats 3200000 in
set_option maxRecDepth 100000 in
theorem odup2_none (w : World) (q : Value) (p s to : Int) (hO : Calls Try.prog 74 #[q, .int .i64 p, .int .i64 s] w fun e w' => e = .returned (.pointer none) ∧ w = w') :
    Calls Try.prog 52 #[q, .int .i64 p, .int .i64 s, .int .i64 to] w fun e w' => e = .returned (.int .i64 6) ∧ w = w' := by
  have HO := Lib.hid hO
  clear hO
  go_enter Try.func52, Try.ntmps52
  go_wp2_with fail
  refine HO.out.mono ?_
  rintro e w1 ⟨rfl, rfl⟩
  go_wp2
  go_ret
  exact ⟨rfl, rfl⟩
set_option maxHeartbeats 3200000 in
set_option maxRecDepth 100000 in
theorem odup2_any (w : World) (B b : Nat) (S : OS) (ad : Nat → Nat) (p s to : Int) (h : OW w B b S ad) :
    Calls Try.prog 52 #[.pointer (some ⟨b, 0, none⟩), .int .i64 p, .int .i64 s, .int .i64 to] w (OR w B b ad (.int .i64 (o2E S p s to)) (o2S S p s to)) := by
  have hO := oof_any w B b S.sl S.ob ad p s h
  unfold o2E o2S
  rcases hl : lk S.sl p s with _ | d
  · rw [hl] at hO
    exact (odup2_none w _ p s to hO).mono fun e w' ⟨h1, h2⟩ => ⟨h1, h2 ▸ h, h2 ▸ Mod.refl _ _⟩
  · rw [hl] at hO
    obtain ⟨ho, hs⟩ := lk_some hl
    have hix := ok_ix ho
    have hval := h.val _ d hix.1 hs
    unfold pq at hO
    simp only [Option.map_some] at hO
    have HO := Lib.hid hO
    simp only [Option.isSome_some, if_true]
    cases hw : withB to 6
    · have HW := Lib.hid hw
      simp only [Bool.false_eq_true, if_false]
      clear hO hl ho hs hix hval hw
      go_enter Try.func52, Try.ntmps52
      go_wp2_with fail
      refine HO.out.mono ?_
      rintro e w1 ⟨rfl, rfl⟩
      go_wp2_with fail
      refine (owithin_any to 6 w).mono ?_
      rintro e w1 ⟨rfl, rfl⟩
      rw [HW.out]
      clear HO HW
      go_wp2
      go_ret
      exact ⟨rfl, h, Mod.refl _ _⟩
    · have HW := Lib.hid hw
      have ho2 : okS p to = true := by
        unfold okS at ho ⊢
        rw [hw, Bool.and_true]
        rw [Bool.and_eq_true] at ho
        exact ho.1
      have hix2 := ok_ix ho2
      have hA := oat_any w b p to
      rw [atPtr_ok ho2] at hA
      have hN := name_any w B b S.sl S.ob ad (sIx p to) (some d) h hix2.1 hix2.2.1 (fun e he => by cases he; exact hval)
      unfold pq at hN
      simp only [Option.map_some] at hN
      simp only [if_true]
      have HA := Lib.hid hA
      have HN := Lib.hid hN
      clear hO hA hN hl ho hs hix hval hw ho2 hix2 h
      generalize sIx p to = i at *
      go_enter Try.func52, Try.ntmps52
      go_wp2_with fail
      refine HO.out.mono ?_
      rintro e w1 ⟨rfl, rfl⟩
      go_wp2_with fail
      refine (owithin_any to 6 w).mono ?_
      rintro e w1 ⟨rfl, rfl⟩
      rw [HW.out]
      go_wp2_with fail
      refine HA.out.mono ?_
      rintro e w1 ⟨rfl, rfl⟩
      go_wp2_with fail
      refine HN.out.mono ?_
      rintro e w1 ⟨rfl, h1, m1⟩
      clear HO HA HN HW
      go_wp2
      go_ret
      exact ⟨rfl, h1, m1⟩
end Go.Proofs.Ytidmkdaegglepaa
