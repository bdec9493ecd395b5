/- Descriptors: Load. -/
import Derived.Test.YtidmkdaegglepaaS2
set_option linter.all false
namespace Go.Proofs.Ytidmkdaegglepaa
open Go.RowKit

theorem DT.weak {w : World} {B B' b : Nat} {L : List DE} (h : DT w B b L) (hB : B' ≤ B) : DT w B' b L := by
  obtain ⟨h1, g, es, c, ms, hb, hg, hl, r⟩ := h
  exact ⟨Nat.le_trans hB h1, g, es, c, ms, hb, hg, Nat.le_trans hB hl, r⟩
def LoadR (B : Nat) (r : Option (List DE)) (e : Ending) (w' : World) : Prop := match r with
  | none => e = .returned (.tuple #[.pointer none, .int .i64 4])
  | some L => ∃ b, e = .returned (.tuple #[.pointer (some ⟨b, 0, none⟩), .int .i64 0]) ∧ DT w' B b L
attribute [local go_sem ↓] LK_eq UP_eq DL_eq
set_option maxHeartbeats 6400000 in
set_option maxRecDepth 100000 in
theorem load_any (w : World) (v : Value) (l : List DE) (hin : Inp w w.heap.size v l.length 5 (atl dc l)) (hl : l.length ≤ 1000) :
    Calls Try.prog 32 #[v] w fun e w' => LoadR w.heap.size (loadL l) e w' ∧ Below w.heap.size w w' := by
  obtain ⟨_, a, cap, rfl, hc⟩ := hin
  have hR := fun x u => dright x u
  have HR := Lib.hid hR
  clear hR
  go_enter Try.func32, Try.ntmps32
  go_wp2_with fail
  refine (dnew w w.heap.size (Nat.le_refl _)).mono ?_
  rintro e w1 ⟨b, rfl, hd1, b1⟩
  go_wp2_with fail
  go_loopw [13] (fun i wr => ∃ (k : Nat) (L : List DE), k ≤ l.length ∧ i = .int .i64 k ∧ Hid (loadL (l.take k) = some L) ∧ DT wr w.heap.size b L ∧ Below w.heap.size w wr) (fun i _ => l.length - (intOf i).toNat)
  case atStart => exact ⟨0, [], by omega, rfl, by rw [List.take_zero]; rfl, hd1, b1⟩
  case round =>
    obtain ⟨k, L, hk, rfl, hL, hd, hbel⟩ := hrel
    clear hd1 b1
    have hsz := hbel.size
    by_cases hlt : k < l.length
    · obtain ⟨b', off, rfl, hb', hcc⟩ := hc (by omega)
      have hx : l[k]? = some (l[k]'hlt) := List.getElem?_eq_getElem hlt
      generalize l[k]'hlt = x at hx
      have c0 := (hbel.cell (p := ⟨b', _, none⟩) hb').trans (hcc k hlt 0 (by omega))
      have c1 := (hbel.cell (p := ⟨b', _, none⟩) hb').trans (hcc k hlt 1 (by omega))
      have c2 := (hbel.cell (p := ⟨b', _, none⟩) hb').trans (hcc k hlt 2 (by omega))
      have c3 := (hbel.cell (p := ⟨b', _, none⟩) hb').trans (hcc k hlt 3 (by omega))
      have c4 := (hbel.cell (p := ⟨b', _, none⟩) hb').trans (hcc k hlt 4 (by omega))
      rw [atl_get hx (v := .int .i64 x.pid) rfl] at c0
      rw [atl_get hx (v := .int .i64 x.slot) rfl] at c1
      rw [atl_get hx (v := .int .i64 x.kind) rfl] at c2
      rw [atl_get hx (v := .int .i64 x.obj) rfl] at c3
      rw [atl_get hx (v := .int .i64 x.off) rfl] at c4
      simp only [Nat.add_zero] at c0
      have hnx : loadL (l.take (k + 1)) = if rg x && !(atB L x.pid x.slot) then some (insL L x) else none := by
        rw [load_next hx, hL.out]; rfl
      have HN := Lib.hid hnx
      have HR2 := Lib.hid (HR.out x)
      clear hcc hc hx hnx HR
      have hat : atB L x.pid x.slot = true ∨ (atB L x.pid x.slot = false ∧ look L x.pid x.slot = none) := by
        unfold atB
        rcases look L x.pid x.slot with _ | z
        · exact .inr ⟨rfl, rfl⟩
        · exact .inl rfl
      have hn1 := Blk.new wr 23 (da x)
      have b1 := alloc_below wr (.cells (da x) 23)
      have b2 := b1.alloc (by simp) (.cells (kc x.pid x.slot) 104)
      have b3 := b2.alloc (by simp; omega) (.cells (da dz) 23)
      obtain ⟨g, hg⟩ := hd.blk
      have k0 := hg.cell 0
      simp at k0
      have hlb := hg.lt
      have L1 := dt_look (hd.quiet b2.drew) (hg.mod (Mod.of_below b2.drew) (fun h => h)) x.pid x.slot
      have L2 := dt_look (hd.quiet b3.drew) (hg.mod (Mod.of_below b3.drew) (fun h => h)) x.pid x.slot
      have k1 := (b2.cell (p := ⟨b, 0, none⟩) hlb).trans k0
      have k2 := (b3.cell (p := ⟨b, 0, none⟩) hlb).trans k0
      rcases hat with hat | ⟨hat, hlk⟩
      · rw [hat] at L1 L2
        rw [hat, Bool.not_true, Bool.and_false] at HN
        have hfin := load_stop (l := l) (j := k + 1) (by rw [HN.out]; simp)
        have HF := Lib.hid hfin
        generalize atV L x.pid x.slot = y at L1 L2
        obtain ⟨x1, x2, x3, x4, x5⟩ := x
        obtain ⟨y1, y2, y3, y4, y5⟩ := y
        have b4 := (b2.alloc (by simp; omega) (.cells (da ⟨y1, y2, y3, y4, y5⟩) 23)).drew
        have hb9 := hbel.trans (b4.mono hsz)
        have HB := Lib.hid hb9
        unfold da kc at *
        simp only [dz] at *
        clear hb9 b1 b2 b3 b4 hn1 hg hat hfin hL HR2 HN
        go_wp2_with fail
        go_region
        all_goals clear L1 L2 k1 k2
        all_goals go_wp2
        all_goals go_ret2
        all_goals exact ⟨by rw [HF.out]; exact rfl, HB.out⟩
      · rw [hat] at L1 L2
        rw [hat, Bool.not_false, Bool.and_true] at HN
        have hv : atV L x.pid x.slot = dz := by simp [atV, hlk]
        rw [hv] at L1 L2
        have b4 := (b2.alloc (by simp; omega) (.cells (da dz) 23)).drew
        have hn2 := ((hn1.alloc (.cells (kc x.pid x.slot) 104)).alloc (.cells (da dz) 23)).drew
        have hk2 := ((Blk.new (wr.alloc (.cells (da x) 23)) 104 (kc x.pid x.slot)).alloc (.cells (da dz) 23)).drew
        have hg2 := hg.mod (Mod.of_below b4) (fun h => h)
        have hd2 := hd.quiet b4
        have hb9 := hbel.trans (b4.mono hsz)
        have HB := Lib.hid (And.intro hb9 (And.intro hn2 (And.intro hk2 (And.intro hg2 hd2))))
        clear hb9 b1 b2 b3 b4 hn1 hg hat hn2 hk2 hg2 hd2 hd hv
        cases hr : rg x
        · rw [hr] at HN HR2
          have hfin := load_stop (l := l) (j := k + 1) (by rw [HN.out]; simp)
          have HF := Lib.hid hfin
          clear hfin HN hr hlk
          obtain ⟨x1, x2, x3, x4, x5⟩ := x
          unfold da kc at *
          simp only [dz] at *
          go_wp2_with fail
          go_region
          all_goals clear L1 L2 k1 k2
          all_goals go_wp2_with fail
          all_goals
            refine (HR2.out _).mono ?_
            rintro e w5 ⟨rfl, b5⟩
            have b6 := HB.out.1.trans (b5.mono HB.out.1.size)
            clear HB HR2 b5
            go_wp2
            go_ret2
            exact ⟨by rw [HF.out]; exact rfl, b6⟩
        · rw [hr, if_pos rfl] at HN
          rw [hr] at HR2
          have hli := fun q s => look_ins x q s L hlk
          have HLI := Lib.hid hli
          clear hr hlk hli
          obtain ⟨x1, x2, x3, x4, x5⟩ := x
          unfold da kc at *
          simp only [dz] at *
          go_wp2_with fail
          go_region
          all_goals clear L1 L2 k1 k2
          all_goals go_wp2_with fail
          all_goals
            refine (HR2.out _).mono ?_
            rintro e w5 ⟨rfl, b5⟩
            obtain ⟨h1, h2, h3, h4, h5⟩ := HB.out
            have b6 := h1.trans (b5.mono h1.size)
            have m2 := h2.mod (Mod.of_below b5) (fun h => h)
            have m3 := h3.mod (Mod.of_below b5) (fun h => h)
            have m4 := h4.mod (Mod.of_below b5) (fun h => h)
            have m5 := (h5.quiet b5).quiet ((Below.refl _ w5).drew)
            simp only [World.size_alloc] at m3
            have e0 := m2.cell 0
            have e1 := m2.cell 1
            have e2 := m2.cell 2
            have e3 := m2.cell 3
            have e4 := m2.cell 4
            have e5 := m3.cell 0
            have e6 := m3.cell 1
            have e7 := m4.cell 0
            simp at e0 e1 e2 e3 e4 e5 e6 e7
            obtain ⟨W2, hu, hm2, hd3⟩ := dt_up m5 ⟨x1, x2, x3, x4, x5⟩
            have U1 := hu g m4
            unfold da kc at U1
            simp only at U1
            have hd4 := hd3 _ HLI.out
            have b7 := b6.drew.trans (m5.bl b6.size hm2)
            have HH := Lib.hid (And.intro hd4 b7)
            clear HB HR2 b5 h1 h2 h3 h4 h5 m2 m3 m4 m5 hu hm2 hd3 hd4 b6 b7
            go_wp2_with fail
            go_region
            clear e0 e1 e2 e3 e4 e5 e6 e7 U1
            go_wp2
            go_roundw
            case rel => exact ⟨k + 1, _, by omega, by go_num, HN, HH.out.1, HH.out.2⟩
            case measure => simp [intOf]; omega
    · obtain rfl : k = l.length := by omega
      rw [List.take_length] at hL
      go_wp2
      go_ret2
      exact ⟨by rw [hL.out]; exact ⟨_, rfl, hd⟩, hbel⟩
end Go.Proofs.Ytidmkdaegglepaa
