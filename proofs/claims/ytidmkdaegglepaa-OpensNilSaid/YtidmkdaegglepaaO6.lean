/- Open objects: Seek, Add. -/
import Derived.Test.YtidmkdaegglepaaO5
set_option linter.all false
namespace Go.Proofs.Ytidmkdaegglepaa
open Go.RowKit

attribute [local go_sem ↓] guard_pq guard_pq_nil eql_pq_nil neq_pq_nil
theorem OT.place {w : World} {B b : Nat} {sl : Nat → Option Nat} {ob : Nat → Option OB} {ad : Nat → Nat} (h : OT w B b sl ob ad) {d : Nat} {o : OB} (hd : d < 36) (ho : ob d = some o) (off : Int) :
    OT (w.setCell ⟨ad d, 2, none⟩ (.int .i64 off)) B b sl (upd ob d (some { o with off := off })) ad ∧ Mod (OF w B b) w (w.setCell ⟨ad d, 2, none⟩ (.int .i64 off)) := by
  have hb := h.obs d o hd ho
  have hne : b ≠ ad d := h.blk.ne_ hb.2 (by decide)
  have hex : ∀ e u, upd ob d (some { o with off := off }) e = some u → ∃ u', ob e = some u' := by
    intro e u hu
    by_cases q : e = d
    · exact ⟨o, q ▸ ho⟩
    · rw [upd_ne _ _ q] at hu; exact ⟨u, hu⟩
  refine ⟨⟨h.low, ?_, fun e u he hu => ?_, fun e f u v he hf hu hv => ?_, fun i e hi he => ?_, h.low6⟩, (Mod.refl _ w).setCell (.inl (.inr ⟨hb.1, _, hb.2⟩)) _⟩
  · have e1 : tab (tf sl (upd ob d (some { o with off := off })) ad) = tab (tf sl ob ad) := tab_congr fun i hi => by
      unfold tf
      split
      · rfl
      · by_cases q : i - 42 = d
        · rw [q, upd_same, ho]; rfl
        · rw [upd_ne _ _ q]
    rw [e1]
    exact h.blk.far (p := ⟨ad d, 2, none⟩) hne _
  · by_cases q : e = d
    · subst q
      rw [upd_same] at hu
      cases hu
      exact ⟨hb.1, hb.2.set_ 2 (.int .i64 off)⟩
    · rw [upd_ne _ _ q] at hu
      have h1 := h.obs e u he hu
      exact ⟨h1.1, h1.2.far (p := ⟨ad d, 2, none⟩) (fun e2 => q (h.inj e d u o he hd hu ho e2)) _⟩
  · obtain ⟨u', hu'⟩ := hex e u hu
    obtain ⟨v', hv'⟩ := hex f v hv
    exact h.inj e f u' v' he hf hu' hv'
  · obtain ⟨h1, u, hu⟩ := h.val i e hi he
    refine ⟨h1, ?_⟩
    by_cases q : e = d
    · exact ⟨_, by rw [q, upd_same]⟩
    · exact ⟨u, by rw [upd_ne _ _ q]; exact hu⟩
def osE (S : OS) (p s off : Int) : Int := match oE S.sl S.ob p s with | some x => if rg (mv x off) then 0 else 1 | none => 6
def osS (S : OS) (p s off : Int) : OS := match lk S.sl p s with
  | none => S
  | some d => match S.ob d with
    | none => S
    | some o => if rg ⟨p, s, o.kind, o.obj, off⟩ then ⟨S.sl, upd S.ob d (some { o with off := off })⟩ else S
set_option maxHeartbeats 3200000 in
set_option maxRecDepth 100000 in
theorem oseek_none (w : World) (q : Value) (p s off : Int) (hO : Calls Try.prog 40 #[q, .int .i64 p, .int .i64 s] w fun e w' => e = .returned (.tuple #[.agg (da dz), .int .i64 6]) ∧ Below w.heap.size w w') :
    Calls Try.prog 43 #[q, .int .i64 p, .int .i64 s, .int .i64 off] w fun e w' => e = .returned (.int .i64 6) ∧ Below w.heap.size w w' := by
  have HO := Lib.hid hO
  clear hO
  unfold da at HO
  simp only [dz] at HO
  go_enter Try.func43, Try.ntmps43
  go_wp2_with fail
  refine HO.out.mono ?_
  rintro e w1 ⟨rfl, b1⟩
  clear HO
  go_wp2
  go_ret
  exact ⟨rfl, b1.alloc b1.size _⟩
set_option maxHeartbeats 3200000 in
set_option maxRecDepth 100000 in
theorem oseek_any (w : World) (B b : Nat) (S : OS) (ad : Nat → Nat) (p s off : Int) (h : OW w B b S ad) :
    Calls Try.prog 43 #[.pointer (some ⟨b, 0, none⟩), .int .i64 p, .int .i64 s, .int .i64 off] w (OR w B b ad (.int .i64 (osE S p s off)) (osS S p s off)) := by
  rcases hl : lk S.sl p s with _ | d
  · have e1 : oE S.sl S.ob p s = none := by unfold oE; rw [hl]; rfl
    have a1 : osE S p s off = 6 := by unfold osE; rw [e1]
    have a2 : osS S p s off = S := by unfold osS; rw [hl]
    rw [a1, a2]
    have hO := oget_none w (.pointer (some ⟨b, 0, none⟩)) p s (fun u hu => by
      have := oof_any u B b S.sl S.ob ad p s (h.quiet hu)
      rw [hl] at this
      exact this)
    exact (oseek_none w _ p s off hO).mono fun e w' ⟨h1, h2⟩ => ⟨h1, h.quiet h2, mod_q h2⟩
  · obtain ⟨o, hd, ho, _⟩ := OT.obj h hl
    have e1 : oE S.sl S.ob p s = some ⟨p, s, o.kind, o.obj, o.off⟩ := by unfold oE; rw [hl]; simp [ho]
    have hG := oget_some w B b S.sl S.ob ad p s d h hl o ho
    have hR := fun u => dright ⟨p, s, o.kind, o.obj, off⟩ u
    by_cases hr : rg ⟨p, s, o.kind, o.obj, off⟩ = true
    rotate_left
    · rw [Bool.not_eq_true] at hr
      have a1 : osE S p s off = 1 := by unfold osE; rw [e1]; simp [mv, hr]
      have a2 : osS S p s off = S := by unfold osS; rw [hl]; simp [ho, hr]
      rw [a1, a2]
      rw [hr] at hR
      unfold da at hG hR
      simp only at hG hR
      have HG := Lib.hid hG
      have HR := Lib.hid hR
      clear hG hR hr e1 ho hl a1 a2
      go_enter Try.func43, Try.ntmps43
      go_wp2_with fail
      refine HG.out.mono ?_
      rintro e w1 ⟨rfl, b1⟩
      have b2 := b1.alloc b1.size (.cells #[.int .i64 p, .int .i64 s, .int .i64 o.kind, .int .i64 o.obj, .int .i64 off] 23)
      clear HG b1
      go_wp2_with fail
      refine (HR.out _).mono ?_
      rintro e w2 ⟨rfl, b3⟩
      have b4 := b2.trans (b3.mono b2.size)
      clear HR b3 b2
      go_wp2
      go_ret
      exact ⟨rfl, h.quiet b4, mod_q b4⟩
    · have a1 : osE S p s off = 0 := by unfold osE; rw [e1]; simp [mv, hr]
      have a2 : osS S p s off = ⟨S.sl, upd S.ob d (some { o with off := off })⟩ := by unfold osS; rw [hl]; simp [ho, hr]
      rw [a1, a2]
      rw [hr] at hR
      unfold da at hG hR
      simp only at hG hR
      have HG := Lib.hid hG
      have HR := Lib.hid hR
      have HH := Lib.hid (And.intro ho hl)
      clear hG hR hr e1 ho hl a1 a2
      go_enter Try.func43, Try.ntmps43
      go_wp2_with fail
      refine HG.out.mono ?_
      rintro e w1 ⟨rfl, b1⟩
      have b2 := b1.alloc b1.size (.cells #[.int .i64 p, .int .i64 s, .int .i64 o.kind, .int .i64 o.obj, .int .i64 off] 23)
      clear HG b1
      go_wp2_with fail
      refine (HR.out _).mono ?_
      rintro e w2 ⟨rfl, b3⟩
      have b4 := b2.trans (b3.mono b2.size)
      have h2 := OT.quiet h b4
      have hO := oof_any w2 B b S.sl S.ob ad p s h2
      rw [HH.out.2] at hO
      unfold pq at hO
      simp only [Option.map_some] at hO
      have HO := Lib.hid hO
      have hpl := h2.place hd HH.out.1 off
      have hm := (mod_q (F := OF w B b) b4).trans hpl.2 (fun i hi hx => by
        rcases hx with rfl | ⟨q1, cs, q2⟩
        · exact .inl rfl
        · exact .inr ⟨q1, cs, (b4.block i hi).symm.trans q2⟩)
      have k2 := (h2.obs d o hd HH.out.1).2.cell 2
      have f2 := (h2.obs d o hd HH.out.1).2.frozen 2
      unfold oc at k2
      simp at k2
      have HF := Lib.hid (And.intro hpl.1 hm)
      clear HR b3 b2 hO hpl hm h2 HH h b4
      go_wp2_with fail
      refine HO.out.mono ?_
      rintro e w3 ⟨rfl, rfl⟩
      clear HO
      go_wp2
      go_ret
      exact ⟨rfl, HF.out.1, HF.out.2⟩
end Go.Proofs.Ytidmkdaegglepaa
