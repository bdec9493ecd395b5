/- Open objects: Get, whole; 'nine'. -/
import Derived.Test.YtidmkdaegglepaaOC
set_option linter.all false
namespace Go.Proofs.Ytidmkdaegglepaa
open Go.RowKit

theorem oget_any (w : World) (B b : Nat) (S : OS) (ad : Nat → Nat) (p s : Int) (h : OW w B b S ad) :
    Calls Try.prog 40 #[.pointer (some ⟨b, 0, none⟩), .int .i64 p, .int .i64 s] w fun e w' => e = .returned (.tuple #[.agg (da (ogV S.sl S.ob p s)), .int .i64 (ogE S.sl p s)]) ∧ Below w.heap.size w w' := by
  unfold ogV ogE oE
  rcases hl : lk S.sl p s with _ | d
  · exact oget_none w _ p s fun u hu => by
      have := oof_any u B b S.sl S.ob ad p s (OT.quiet h hu)
      rw [hl] at this
      exact this
  · obtain ⟨o, hd, ho, _⟩ := OT.obj h hl
    have := oget_some w B b S.sl S.ob ad p s d h hl o ho
    simpa [ho] using this
theorem OT.bl {w w' : World} {B b : Nat} {S : OS} {ad : Nat → Nat} (h : OW w B b S ad) (hB : B ≤ w.heap.size) (hm : Mod (OF w B b) w w') : Below B w w' := hm.below hB (OF.lowk h)
def n1 : OS := oaS S0 1 2 2
def n2 : OS := osS n1 1 0 5
def n3 : OS := odS n2 1 0
def n4 : OS := osS n3 1 1 9
set_option maxHeartbeats 6400000 in
set_option maxRecDepth 100000 in
theorem nine_any (w : World) : Calls Try.prog 35 #[] w fun e w' => e = .returned (.bool true) ∧ Below w.heap.size w w' := by
  go_enter Try.func35, Try.ntmps35
  go_wp2_with fail
  refine (onew w w.heap.size (Nat.le_refl _)).mono ?_
  rintro e w1 ⟨b, ad0, rfl, h1, b1⟩
  go_wp2_with fail
  refine (oadd_any w1 w.heap.size b S0 ad0 1 2 2 h1 b1.size (fun _ => by decide)).mono ?_
  rintro e w2 ⟨rfl, ⟨ad, h2⟩, m2⟩
  have b2 := b1.trans (OT.bl h1 b1.size m2)
  have e1 : oaV S0 1 2 2 = 0 := by decide
  have e2 : oaE S0 1 2 2 = 0 := by decide
  rw [e1, e2]
  clear e1 e2 h1 m2 b1
  go_wp2_with fail
  refine (oseek_any w2 w.heap.size b n1 ad 1 0 5 h2).mono ?_
  rintro e w3 ⟨rfl, h3, m3⟩
  have b3 := b2.trans (OT.bl h2 b2.size m3)
  have e1 : osE n1 1 0 5 = 0 := by decide
  rw [e1]
  clear e1 h2 m3 b2
  go_wp2_with fail
  refine (odup_any w3 w.heap.size b n2 ad 1 0 h3).mono ?_
  rintro e w4 ⟨rfl, h4, m4⟩
  have b4 := b3.trans (OT.bl h3 b3.size m4)
  have e1 : odV n2 1 0 = 1 := by decide
  have e2 : odE n2 1 0 = 0 := by decide
  rw [e1, e2]
  clear e1 e2 h3 m4 b3
  go_wp2_with fail
  refine (oseek_any w4 w.heap.size b n3 ad 1 1 9 h4).mono ?_
  rintro e w5 ⟨rfl, h5, m5⟩
  have b5 := b4.trans (OT.bl h4 b4.size m5)
  have e1 : osE n3 1 1 9 = 0 := by decide
  rw [e1]
  clear e1 h4 m5 b4
  go_wp2_with fail
  refine (oget_any w5 w.heap.size b n4 ad 1 0 h5).mono ?_
  rintro e w6 ⟨rfl, m6⟩
  have e1 : ogV n4.sl n4.ob 1 0 = ⟨1, 0, 2, 2, 9⟩ := by rfl
  have e2 : ogE n4.sl 1 0 = 0 := by decide
  rw [e1, e2]
  have q6 := m6.alloc m6.size (.cells (da ⟨1, 0, 2, 2, 9⟩) 23)
  have h6 := OT.quiet h5 q6
  have b6 := b5.trans (q6.mono b5.size)
  have hR := orefs_any _ w.heap.size b n4 ad 2 2 h6
  have e3 : rfN n4 2 2 36 = 2 := by decide
  rw [e3] at hR
  have hO := oopens_any _ w.heap.size b n4 ad h6
  have e4 : (oL n4.ob 36).length = 1 := by decide
  rw [e4] at hO
  have e5 : (sL n4.sl 42).length = 2 := by decide
  have hS := fun u (hu : OW u w.heap.size b n4 ad) => oslots_any u w.heap.size b n4 ad hu
  rw [e5] at hS
  unfold da at *
  simp only at *
  have HR := Lib.hid hR
  have HO := Lib.hid hO
  have HS := Lib.hid hS
  clear e1 e2 e3 e4 e5 h5 b5 m6 q6 hR hO hS
  go_wp2_with fail
  refine HR.out.mono ?_
  rintro e w7 ⟨rfl, rfl⟩
  go_wp2_with fail
  refine HO.out.mono ?_
  rintro e w8 ⟨v8, rfl, o8, b8⟩
  obtain ⟨a8, c8, rfl⟩ := len_of_own o8
  have h8 := OT.quiet h6 b8
  have q8 := b6.trans (b8.mono b6.size)
  clear o8 b8 HR HO h6 b6
  go_wp2_with fail
  refine (HS.out _ h8).mono ?_
  rintro e w9 ⟨v9, rfl, o9, b9⟩
  obtain ⟨a9, c9, rfl⟩ := len_of_own o9
  have q9 := q8.trans (b9.mono q8.size)
  clear o9 b9 HS h8 q8
  go_wp2
  go_ret
  exact ⟨rfl, q9⟩
end Go.Proofs.Ytidmkdaegglepaa
