/- 'does' (pipes): the table and the reference do a step alike. -/
import Derived.Test.YtjibphpkebcoeaaP1
set_option linter.all false
namespace Go.Proofs.Ytjibphpkebcoeaa
open Go.RowKit

theorem own_not_rf {w : World} {B b rb : Nat} {s : PS} {l : List Ent} (hp : PR w B b s) (hr : RR w B rb l) : ∀ k, Own b s k → ¬ RF w B rb k := by
  rintro k (rfl | ⟨i, d, hi, e⟩)
  · exact RF.type hr hp.tab (by decide) (by decide)
  · exact RF.type hr (hp.pipe i hi k d e).1 (by decide) (by decide)
theorem PR.quiet {w w' : World} {B b : Nat} {s : PS} (h : PR w B b s) (hb : Below w.heap.size w w') : PR w' B b s := h.mod (Mod.of_below hb) (fun _ _ h => h)
theorem RR.quiet {w w' : World} {B b : Nat} {l : List Ent} (h : RR w B b l) (hb : Below w.heap.size w w') : RR w' B b l := h.mod (Mod.of_below hb) (fun _ _ h => h)

def bx (wh id n : Int) (x : ByteArray) : Array Value := #[.int .i64 wh, .int .i64 id, .int .i64 n, .string x]

/-- Both tables, and a local step at block N. -/
structure Both (w : World) (B b rb : Nat) (s : PS) (l : List Ent) (N : Nat) (cs : Array Value) : Prop where
  p : PR w B b s
  r : RR w B rb l
  loc : Blk w N 31 cs
  hB : B ≤ w.heap.size
theorem Both.enter {w : World} {B b rb : Nat} {s : PS} {l : List Ent} (hp : PR w B b s) (hr : RR w B rb l) (hB : B ≤ w.heap.size) (cs : Array Value) : Both (w.alloc (.cells cs 31)) B b rb s l w.heap.size cs :=
  ⟨hp.quiet ((Below.refl _ _).alloc (Nat.le_refl _) _), hr.quiet ((Below.refl _ _).alloc (Nat.le_refl _) _), Blk.new _ _ _, by simp; omega⟩
theorem Both.drew {w : World} {B b rb : Nat} {s : PS} {l : List Ent} {N : Nat} {cs : Array Value} (h : Both w B b rb s l N cs) : Both w.drew B b rb s l N cs :=
  ⟨h.p.quiet (Below.refl _ w).drew, h.r.quiet (Below.refl _ w).drew, h.loc, h.hB⟩
theorem Both.left {w w' : World} {B b rb : Nat} {s s' : PS} {l : List Ent} {N : Nat} {cs : Array Value} (h : Both w B b rb s l N cs) (hp : PR w' B b s') (hm : Mod (Own b s) w w') : Both w' B b rb s' l N cs :=
  ⟨hp, h.r.mod hm (fun k hk ho => own_not_rf h.p h.r k ho hk), h.loc.mod hm (h.p.own_type h.loc (by decide) (by decide)), Nat.le_trans h.hB hm.size⟩
theorem Both.right {w w' : World} {B b rb : Nat} {s : PS} {l l' : List Ent} {N : Nat} {cs : Array Value} (h : Both w B b rb s l N cs) (hr : RR w' B rb l') (hm : Mod (RF w B rb) w w') : Both w' B b rb s l' N cs :=
  ⟨h.p.mod hm (fun k hk hf => own_not_rf h.p h.r k hk hf), hr, h.loc.mod hm (RF.type h.r h.loc (by decide) (by decide)), Nat.le_trans h.hB hm.size⟩
/-- Below B all is as it was; and blocks of other types than the two tables' are, too. -/
structure BK (B : Nat) (w w' : World) : Prop where
  bel : Below B w w'
  keep : ∀ k T cs, T ≠ 81 → T ≠ 83 → T ≠ 63 → T ≠ 75 → Blk w k T cs → Blk w' k T cs
theorem BK.trans {B : Nat} {a b c : World} (h : BK B a b) (k : BK B b c) : BK B a c :=
  ⟨h.bel.trans k.bel, fun i T cs h1 h2 h3 h4 hb => k.keep i T cs h1 h2 h3 h4 (h.keep i T cs h1 h2 h3 h4 hb)⟩
theorem BK.drew {B : Nat} {a b : World} (h : BK B a b) : BK B a b.drew := ⟨h.bel.drew, h.keep⟩
theorem BK.quiet {B : Nat} {a b : World} (h : Below a.heap.size a b) (hB : B ≤ a.heap.size) : BK B a b :=
  ⟨h.mono hB, fun _ _ _ _ _ _ _ hb => hb.mod (Mod.of_below h) (fun h => h)⟩
theorem Both.bl {w w' : World} {B b rb : Nat} {s : PS} {l : List Ent} {N : Nat} {cs : Array Value} (h : Both w B b rb s l N cs) (hm : Mod (Own b s) w w') : BK B w w' := ⟨hm.below h.hB h.p.own_low, fun _ _ _ h1 h2 _ _ hb => hb.mod hm (h.p.own_type hb h1 h2)⟩
theorem Both.br {w w' : World} {B b rb : Nat} {s : PS} {l : List Ent} {N : Nat} {cs : Array Value} (h : Both w B b rb s l N cs) (hm : Mod (RF w B rb) w w') : BK B w w' := ⟨hm.below h.hB (RF.low h.r), fun _ _ _ _ _ h3 h4 hb => hb.mod hm (RF.type h.r hb h3 h4)⟩

def stepS (s : PS) (N : Nat) (wh id n : Int) (x : ByteArray) : PS :=
  if wh = 0 ∨ wh = 1 then (if lowest s < 3 then up s (lowest s) (some (N, ByteArray.empty)) else s)
  else if wh = 2 then clS s id
  else if wh = 3 ∨ wh = 4 ∨ wh = 5 then wrS s id x
  else if wh = 6 ∨ wh = 7 then rdS s id n
  else s

def DoesPost (w : World) (B b rb : Nat) (s : PS) (wh id n : Int) (x : ByteArray) (e : Ending) (w' : World) : Prop :=
  e = .returned (.bool true) ∧ ∃ N, PR w' B b (stepS s N wh id n x) ∧ RR w' B rb (ents (stepS s N wh id n x)) ∧ BK B w w'

set_option maxHeartbeats 3200000 in
set_option maxRecDepth 100000 in
theorem does_open (w : World) (B b rb : Nat) (s : PS) (wh id n : Int) (x : ByteArray) (hp : PR w B b s) (hr : RR w B rb (ents s)) (hB : B ≤ w.heap.size) (hw : wh = 0 ∨ wh = 1) :
    Calls Try.prog 32 #[.pointer (some ⟨b, 0, none⟩), .pointer (some ⟨rb, 0, none⟩), .agg #[.int .i64 wh, .int .i64 id, .int .i64 n, .string x]] w (DoesPost w B b rb s wh id n x) := by
  have h0 := Both.enter hp hr hB (bx wh id n x)
  have hb0 : BK B w (w.alloc (.cells (bx wh id n x) 31)) := BK.quiet ((Below.refl _ _).alloc (Nat.le_refl _) _) hB
  have hst : ∀ N, stepS s N wh id n x = if lowest s < 3 then up s (lowest s) (some (N, ByteArray.empty)) else s := fun N => by unfold stepS; rw [if_pos hw]
  have HS := Lib.hid hst
  clear hst hp hr
  unfold bx at h0 hb0
  rcases hw with rfl | rfl
  all_goals
    go_enter Try.func32, Try.ntmps32
    go_wp2_with fail
    refine (open_pr _ _ _ s h0.p h0.hB).mono ?_
    rintro e w1 ⟨m1, ⟨hl, rfl, h1⟩ | ⟨hl, rfl, h1⟩⟩
    · have g1 := h0.left h1 m1
      have b1 := hb0.trans (h0.bl m1)
      have hlw := lowest_ents s
      have hop := fun N => opS_ents s N hl
      have HL := Lib.hid hlw
      have HO := Lib.hid hop
      have HLt := Lib.hid hl
      clear hlw hop h1 m1 hb0 hl
      go_wp2_with fail
      refine (open_rr (ents s) _ _ _ g1.r g1.hB (ents_id s) (by have := ents_len s; omega)).mono ?_
      rintro e w2 ⟨m2, ⟨hl2, rfl, h2⟩ | ⟨hl2, rfl, h2⟩⟩
      rotate_left
      · have := HL.out; have := HLt.out; omega
      rw [← HL.out]
      have g2 := g1.right h2 m2
      have b2 := b1.trans (g1.br m2)
      clear m2 h2 hl2 g1
      go_wp2
      go_ret
      refine ⟨rfl, ?N, ?h1, ?h2, b2⟩
      case h1 => rw [HS.out, if_pos HLt.out]; exact g2.p
      case h2 => rw [HS.out, if_pos HLt.out, HO.out]; exact g2.r
    · have g1 := h0.left h1 m1
      have b1 := hb0.trans (h0.bl m1)
      have hlw := lowest_ents s
      have HL := Lib.hid hlw
      have HLt := Lib.hid hl
      clear hlw h1 m1 hb0 hl
      go_wp2_with fail
      refine (open_rr (ents s) _ _ _ g1.r g1.hB (ents_id s) (by have := ents_len s; omega)).mono ?_
      rintro e w2 ⟨m2, ⟨hl2, rfl, h2⟩ | ⟨hl2, rfl, h2⟩⟩
      · have := HL.out; have := HLt.out; omega
      have g2 := g1.right h2 m2
      have b2 := b1.trans (g1.br m2)
      have hn : ¬ lowest s < 3 := by have := HLt.out; omega
      have HN := Lib.hid hn
      clear m2 h2 hl2 g1 hn
      go_wp2
      go_ret
      refine ⟨rfl, 0, ?_, ?_, b2⟩
      · rw [HS.out, if_neg HN.out]; exact g2.p
      · rw [HS.out, if_neg HN.out]; exact g2.r
set_option maxHeartbeats 3200000 in
set_option maxRecDepth 100000 in
theorem does_close (w : World) (B b rb : Nat) (s : PS) (id n : Int) (x : ByteArray) (hp : PR w B b s) (hr : RR w B rb (ents s)) (hB : B ≤ w.heap.size) :
    Calls Try.prog 32 #[.pointer (some ⟨b, 0, none⟩), .pointer (some ⟨rb, 0, none⟩), .agg #[.int .i64 2, .int .i64 id, .int .i64 n, .string x]] w (DoesPost w B b rb s 2 id n x) := by
  have h0 := Both.enter hp hr hB (bx 2 id n x)
  have hb0 : BK B w (w.alloc (.cells (bx 2 id n x) 31)) := BK.quiet ((Below.refl _ _).alloc (Nat.le_refl _) _) hB
  have hst : ∀ N, stepS s N 2 id n x = clS s id := fun N => by simp [stepS]
  have HS := Lib.hid hst
  have HE := Lib.hid (waE_ents s id)
  have HC := Lib.hid (clS_ents s id)
  clear hst hp hr
  unfold bx at h0 hb0
  have H0 := Lib.hid h0.drew
  have HB0 := Lib.hid hb0
  clear h0 hb0
  go_enter Try.func32, Try.ntmps32
  go_wp2_with fail
  go_region_held3 (fun w' => w'.cell? ⟨w.heap.size, 1, none⟩ = some (.int .i64 id))
    (first | exact H0.out.loc.cell 1 | exact g1.loc.cell 1 | exact g2.loc.cell 1)
    (first
      | (go_at_call 36; refine (close_pr _ _ _ s id H0.out.p).mono ?_; rintro e w1 ⟨rfl, h1, m1⟩; have g1 := H0.out.left h1 m1; have b1 := ((HB0.out.drew).trans (H0.out.bl m1)); rw [HE.out])
      | (go_at_call 47; refine (close_rr _ _ _ id _ g1.r g1.hB).mono ?_; rintro e w2 ⟨rfl, h2, m2⟩; have g2 := g1.right h2 m2; have b2 := b1.trans (g1.br m2)))
  have hP : PR w2 B b (stepS s 0 2 id n x) := by rw [HS.out]; exact g2.p
  have hR : RR w2 B rb (ents (stepS s 0 2 id n x)) := by rw [HS.out, HC.out]; exact g2.r
  clear g1 g2 h1 h2 m1 m2 b1
  go_wp2
  go_ret
  exact ⟨by simp, 0, hP, hR, b2⟩
set_option maxHeartbeats 3200000 in
set_option maxRecDepth 100000 in
theorem does_write (w : World) (B b rb : Nat) (s : PS) (wh id n : Int) (x : ByteArray) (hp : PR w B b s) (hr : RR w B rb (ents s)) (hB : B ≤ w.heap.size) (hw : wh = 3 ∨ wh = 4 ∨ wh = 5) (hx : x.size ≤ 1000) :
    Calls Try.prog 32 #[.pointer (some ⟨b, 0, none⟩), .pointer (some ⟨rb, 0, none⟩), .agg #[.int .i64 wh, .int .i64 id, .int .i64 n, .string x]] w (DoesPost w B b rb s wh id n x) := by
  have h0 := Both.enter hp hr hB (bx wh id n x)
  have hb0 : BK B w (w.alloc (.cells (bx wh id n x) 31)) := BK.quiet ((Below.refl _ _).alloc (Nat.le_refl _) _) hB
  have hst : ∀ N, stepS s N wh id n x = wrS s id x := fun N => by unfold stepS; rw [if_neg (by omega), if_neg (by omega), if_pos hw]
  have HS := Lib.hid hst
  have HE := Lib.hid (wr_ents s id x).1
  have HC := Lib.hid (wr_ents s id x).2
  clear hst hp hr
  unfold bx at h0 hb0
  have H0 := Lib.hid h0.drew
  have HB0 := Lib.hid hb0
  clear h0 hb0
  rcases hw with rfl | rfl | rfl
  all_goals
    go_enter Try.func32, Try.ntmps32
    go_wp2_with fail
    go_region_held3 (fun w' => w'.cell? ⟨w.heap.size, 1, none⟩ = some (.int .i64 id) ∧ w'.cell? ⟨w.heap.size, 3, none⟩ = some (.string x))
      (first | exact ⟨H0.out.loc.cell 1, H0.out.loc.cell 3⟩ | exact ⟨g1.loc.cell 1, g1.loc.cell 3⟩ | exact ⟨g2.loc.cell 1, g2.loc.cell 3⟩)
      (first
        | (go_at_call 16; refine (write_pr _ _ _ s id x H0.out.p).mono ?_; rintro e w1 ⟨rfl, h1, m1⟩; have g1 := H0.out.left h1 m1; have b1 := ((HB0.out.drew).trans (H0.out.bl m1)); rw [HE.out])
        | (go_at_call 48; refine (write_rr _ _ _ id x _ g1.r g1.hB hx).mono ?_; rintro e w2 ⟨rfl, h2, m2⟩; have g2 := g1.right h2 m2; have b2 := b1.trans (g1.br m2)))
    have hP := g2.p
    rw [← HS.out 0] at hP
    have hR := g2.r
    rw [← HC.out, ← HS.out 0] at hR
    clear g1 g2 h1 h2 m1 m2 b1
    go_wp2
    go_ret
    exact ⟨by simp, 0, hP, hR, b2⟩
set_option maxHeartbeats 3200000 in
set_option maxRecDepth 100000 in
theorem does_read (w : World) (B b rb : Nat) (s : PS) (wh id n : Int) (x : ByteArray) (hp : PR w B b s) (hr : RR w B rb (ents s)) (hB : B ≤ w.heap.size) (hw : wh = 6 ∨ wh = 7) :
    Calls Try.prog 32 #[.pointer (some ⟨b, 0, none⟩), .pointer (some ⟨rb, 0, none⟩), .agg #[.int .i64 wh, .int .i64 id, .int .i64 n, .string x]] w (DoesPost w B b rb s wh id n x) := by
  have h0 := Both.enter hp hr hB (bx wh id n x)
  have hb0 : BK B w (w.alloc (.cells (bx wh id n x) 31)) := BK.quiet ((Below.refl _ _).alloc (Nat.le_refl _) _) hB
  have hst : ∀ N, stepS s N wh id n x = rdS s id n := fun N => by unfold stepS; rw [if_neg (by omega), if_neg (by omega), if_neg (by omega), if_pos hw]
  have HS := Lib.hid hst
  have HE := Lib.hid (rd_ents s id n).1
  have HV := Lib.hid (rd_ents s id n).2.1
  have HC := Lib.hid (rd_ents s id n).2.2
  clear hst hp hr
  unfold bx at h0 hb0
  rcases hw with rfl | rfl
  all_goals
    go_enter Try.func32, Try.ntmps32
    go_wp2_with fail
    refine (read_pr _ _ _ s id n h0.p).mono ?_
    rintro e w1 ⟨rfl, h1, m1⟩
    have g1 := h0.left h1 m1
    have b1 := hb0.trans (h0.bl m1)
    rw [HE.out, HV.out]
    have q1 : w1.cell? ⟨w.heap.size, 1, none⟩ = some (.int .i64 id) := g1.loc.cell 1
    have q2 : w1.cell? ⟨w.heap.size, 2, none⟩ = some (.int .i64 n) := g1.loc.cell 2
    clear h1 m1
    go_wp2_with fail
    refine (read_rr _ _ _ id n _ g1.r g1.hB).mono ?_
    rintro e w2 ⟨rfl, h2, m2⟩
    have g2 := g1.right h2 m2
    have b2 := b1.trans (g1.br m2)
    have hP := g2.p
    rw [← HS.out 0] at hP
    have hR := g2.r
    rw [← HC.out, ← HS.out 0] at hR
    clear g1 g2 h2 m2 b1 q1 q2
    go_wp2
    go_ret
    exact ⟨by simp, 0, hP, hR, b2⟩
set_option maxHeartbeats 3200000 in
set_option maxRecDepth 100000 in
theorem does_look (w : World) (B b rb : Nat) (s : PS) (wh id n : Int) (x : ByteArray) (hp : PR w B b s) (hr : RR w B rb (ents s)) (hB : B ≤ w.heap.size) (hw : wh < 0 ∨ 7 < wh) :
    Calls Try.prog 32 #[.pointer (some ⟨b, 0, none⟩), .pointer (some ⟨rb, 0, none⟩), .agg #[.int .i64 wh, .int .i64 id, .int .i64 n, .string x]] w (DoesPost w B b rb s wh id n x) := by
  have h0 := Both.enter hp hr hB (bx wh id n x)
  have hb0 : BK B w (w.alloc (.cells (bx wh id n x) 31)) := BK.quiet ((Below.refl _ _).alloc (Nat.le_refl _) _) hB
  have hst : ∀ N, stepS s N wh id n x = s := fun N => by unfold stepS; rw [if_neg (by omega), if_neg (by omega), if_neg (by omega), if_neg (by omega)]
  have HS := Lib.hid hst
  have HE := Lib.hid (waE_ents s id)
  have HN := Lib.hid (waN_ents s id)
  have n0 : (wh == 0) = false := by simp; omega
  have n1 : (wh == 1) = false := by simp; omega
  have n2 : (wh == 2) = false := by simp; omega
  have n3 : (wh == 3) = false := by simp; omega
  have n4 : (wh == 4) = false := by simp; omega
  have n5 : (wh == 5) = false := by simp; omega
  have n6 : (wh == 6) = false := by simp; omega
  have n7 : (wh == 7) = false := by simp; omega
  clear hst hp hr hw
  unfold bx at h0 hb0
  go_enter Try.func32, Try.ntmps32
  go_wp2_with fail
  refine (waits_pr _ _ _ s id h0.p).mono ?_
  rintro e w1 ⟨rfl, rfl⟩
  rw [HE.out, HN.out]
  go_wp2_with fail
  refine (waits_rr _ _ _ id _ h0.r).mono ?_
  rintro e w2 ⟨rfl, hb2⟩
  have hP := h0.p.quiet hb2
  rw [← HS.out 0] at hP
  have hR := h0.r.quiet hb2
  have e2 : ents s = ents (stepS s 0 wh id n x) := by rw [HS.out]
  rw [e2] at hR
  have b2 := hb0.trans (BK.quiet hb2 h0.hB)
  clear h0 hb0 hb2 e2
  go_wp2
  go_ret
  exact ⟨by simp, 0, hP, hR, b2⟩
theorem does_any (w : World) (B b rb : Nat) (s : PS) (wh id n : Int) (x : ByteArray) (hp : PR w B b s) (hr : RR w B rb (ents s)) (hB : B ≤ w.heap.size) (hx : x.size ≤ 1000) :
    Calls Try.prog 32 #[.pointer (some ⟨b, 0, none⟩), .pointer (some ⟨rb, 0, none⟩), .agg #[.int .i64 wh, .int .i64 id, .int .i64 n, .string x]] w (DoesPost w B b rb s wh id n x) := by
  by_cases h1 : wh = 0 ∨ wh = 1
  · exact does_open w B b rb s wh id n x hp hr hB h1
  by_cases h2 : wh = 2
  · subst h2; exact does_close w B b rb s id n x hp hr hB
  by_cases h3 : wh = 3 ∨ wh = 4 ∨ wh = 5
  · exact does_write w B b rb s wh id n x hp hr hB h3 hx
  by_cases h4 : wh = 6 ∨ wh = 7
  · exact does_read w B b rb s wh id n x hp hr hB h4
  · exact does_look w B b rb s wh id n x hp hr hB (by omega)
end Go.Proofs.Ytjibphpkebcoeaa
