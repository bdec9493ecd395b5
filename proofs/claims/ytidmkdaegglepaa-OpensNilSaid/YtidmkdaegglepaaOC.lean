/- Open objects: Slots. -/
import Derived.Test.YtidmkdaegglepaaOB
set_option linter.all false
namespace Go.Proofs.Ytidmkdaegglepaa
open Go.RowKit

attribute [local go_sem ↓] guard_pq guard_pq_nil eql_pq_nil neq_pq_nil
theorem s3_at (p j d : Nat) (hj : j < 6) : s3 (p * 6 + j, d) = [.int .i64 (p : Int), .int .i64 (j : Int), .int .i64 (d : Int)] := by
  unfold s3
  simp only
  rw [show (p * 6 + j) / 6 = p by omega, show (p * 6 + j) % 6 = j by omega]
theorem pq_ptr (x : Option Nat) : ∃ o, pq x = .pointer o := by
  cases x with
  | none => exact ⟨_, rfl⟩
  | some g => exact ⟨_, rfl⟩
set_option maxHeartbeats 12800000 in
set_option maxRecDepth 100000 in
theorem oslots_any (w : World) (B b : Nat) (S : OS) (ad : Nat → Nat) (h : OW w B b S ad) :
    Calls Try.prog 42 #[.pointer (some ⟨b, 0, none⟩)] w fun e w' => ∃ v, e = .returned v ∧ w'.ownsRow w.heap.size 76 3 v (sL S.sl 42).length ((sL S.sl 42).flatMap s3) ∧ Below w.heap.size w w' := by
  obtain ⟨i0, hi, hz0, hz1, hz2⟩ := info_parts Try.info76
  have hr := h.slr
  have hI := fun (u : World) (p : Nat) (hp : p < 7) => idxRow (fun j => (S.sl j).map ad) hp u
  have hJ : ∀ (u : World) (p j : Nat), j < 6 → (Instr.index 107 (.agg (row6 fun (j : Nat) => (S.sl (p * 6 + j)).map ad)) (.int .i64 (j : Int))).run Try.prog u = .ok (pq ((S.sl (p * 6 + j)).map ad)) u := fun u p j hj => idx1 Try.und107 _ hj (row6_get _ hj) u
  have hsz : (Try.prog.info? 108).map (·.size) = some (row42 fun j => (S.sl j).map ad).length := by
    simp only [row42, List.length_map, List.length_range]
    kernel_rfl
  generalize (row42 fun j => (S.sl j).map ad) = rw42 at *
  unfold row6 at hI hJ
  simp only [Nat.add_zero] at hI hJ
  have HI := Lib.hid hI
  have HJ := Lib.hid hJ
  have HH := Lib.hid h
  clear hI hJ h
  go_enter Try.func42, Try.ntmps42
  go_wp2_with (refine wpList_load_mid rfl 108 _ rfl b 0 rfl rw42 _ hr Try.und108 rfl hsz ?_)
  clear hr
  go_loopw [3, 14] (fun v i wr => ∃ p : Nat, p ≤ 7 ∧ i = .int .i64 p ∧ wr.ownsRow w.heap.size 76 3 v (sL S.sl (p * 6)).length ((sL S.sl (p * 6)).flatMap s3) ∧ Below w.heap.size w wr) (fun _ i _ => 7 - (intOf i).toNat)
  case atStart => exact ⟨0, by omega, rfl, World.ownsRow_nil _ _ _ _, Below.refl _ _⟩
  case round =>
    obtain ⟨p, hp, rfl, hown, hbel⟩ := hrel
    by_cases hlt : p < 7
    · have d0 : decide ((p : Int) < 7) = true := by simp; omega
      have I := HI.out wr p hlt
      have hJ := fun (u : World) (j : Nat) (hj : j < 6) => HJ.out u p j hj
      have hbel2 := hbel.alloc hbel.size (.cells (row6 fun (j : Nat) => (S.sl (p * 6 + j)).map ad) 107)
      have hown2 := hown.alloc (.cells (row6 fun (j : Nat) => (S.sl (p * 6 + j)).map ad) 107)
      unfold row6 at hbel2 hown2
      simp only [Nat.add_zero] at hbel2 hown2
      obtain ⟨f0, hf0⟩ := pq_ptr ((S.sl (p * 6)).map ad)
      simp only [hf0] at I hJ hbel2 hown2
      obtain ⟨f1, hf1⟩ := pq_ptr ((S.sl (p * 6 + 1)).map ad)
      simp only [hf1] at I hJ hbel2 hown2
      obtain ⟨f2, hf2⟩ := pq_ptr ((S.sl (p * 6 + 2)).map ad)
      simp only [hf2] at I hJ hbel2 hown2
      obtain ⟨f3, hf3⟩ := pq_ptr ((S.sl (p * 6 + 3)).map ad)
      simp only [hf3] at I hJ hbel2 hown2
      obtain ⟨f4, hf4⟩ := pq_ptr ((S.sl (p * 6 + 4)).map ad)
      simp only [hf4] at I hJ hbel2 hown2
      obtain ⟨f5, hf5⟩ := pq_ptr ((S.sl (p * 6 + 5)).map ad)
      simp only [hf5] at I hJ hbel2 hown2
      have HJ2 := Lib.hid hJ
      clear hJ hown hbel hf0 hf1 hf2 hf3 hf4 hf5 HJ
      go_wp2_with fail
      generalize (wr.alloc (.cells #[.pointer f0, .pointer f1, .pointer f2, .pointer f3, .pointer f4, .pointer f5] 107)) = wo at *
      generalize wr.heap.size = g0 at *
      clear I
      go_loopw [3, 19] (fun v i wq => ∃ j : Nat, j ≤ 6 ∧ i = .int .i64 j ∧ wq.ownsRow w.heap.size 76 3 v (sL S.sl (p * 6 + j)).length ((sL S.sl (p * 6 + j)).flatMap s3) ∧ Below w.heap.size w wq) (fun _ i _ => 6 - (intOf i).toNat)
      case atStart => exact ⟨0, by omega, rfl, by simpa using hown2, hbel2⟩
      case round =>
        obtain ⟨j, hj, rfl, hown, hbel⟩ := hrel
        clear hown2 hbel2
        have hszw := hbel.size
        have hlen := sL_len S.sl (p * 6 + j)
        by_cases hjl : j < 6
        · have d1 : decide ((j : Int) < 6) = true := by simp; omega
          have J := HJ2.out wr j hjl
          rcases e : S.sl (p * 6 + j) with _ | d
          · have hn := sL_none e
            have HN := Lib.hid hn
            rw [e] at J
            simp only [Option.map_none] at J
            clear hn e
            go_wp2
            go_roundw
            case rel => exact ⟨j + 1, by omega, by go_num, by rw [show p * 6 + (j + 1) = p * 6 + j + 1 by omega, HN.out]; exact hown, hbel⟩
            case measure => simp [intOf]; omega
          · have hn := sL_some e
            have hs3 := s3_at p j d hjl
            have HN := Lib.hid (And.intro hn hs3)
            rw [e] at J
            simp only [Option.map_some] at J
            unfold pq at J
            have ho := OT.quiet HH.out hbel
            obtain ⟨hd, o, hob⟩ := ho.val _ d (by omega) e
            have HF := Lib.hid (first_ob ho.n hd hob)
            clear hn e hs3 ho
            generalize sL S.sl (p * 6 + j) = u at *
            go_wp2_with fail
            refine HF.out.mono ?_
            rintro e w2 ⟨rfl, rfl⟩
            clear HF J
            go_wp2_with (at_builtin; refine wpList_append_own _ rfl _ _ 73 rfl w.heap.size 76 i0 _ 3 24 Try.underlying73 hi hz0 hz1 hz2 rfl (by decide) _ _ _ rfl (hown.alloc _) ⟨wr.heap.size, 0, none⟩ 1 1 [.int .i64 (p : Int), .int .i64 (j : Int), .int .i64 (d : Int)] rfl rfl ?c1 ?c2 ?c3 ?c4 ?c5 ?_)
            case c1 => exact news_new _ _ _
            case c2 => intro u hu; simp at hu; rcases hu with rfl | rfl | rfl <;> rfl
            case c3 => unfold maxLen; omega
            case c4 => omega
            case c5 => simp; omega
            intro v' w2 hown3 hgrow _
            have hbel3 : Below w.heap.size w w2 := (hbel.alloc hszw _).grown hgrow (by simp; omega) (fun g hg => (hown.lt g hg).1)
            have hown4 : w2.ownsRow w.heap.size 76 3 v' (sL S.sl (p * 6 + j + 1)).length ((sL S.sl (p * 6 + j + 1)).flatMap s3) := by
              rw [HN.out.1, List.flatMap_append, List.length_append]
              simpa [HN.out.2] using hown3
            obtain ⟨a', c', rfl⟩ := len_of_own hown4
            clear hown hown3 hgrow hbel
            go_wp2
            go_roundw
            case rel => exact ⟨j + 1, by omega, by go_num, hown4, hbel3⟩
            case measure => simp [intOf]; omega
        · obtain rfl : j = 6 := by omega
          clear HJ2
          go_wp2
          go_roundw
          case rel => exact ⟨p + 1, by omega, by go_num, by rw [show (p + 1) * 6 = p * 6 + 6 by omega]; exact hown, hbel⟩
          case measure => simp [intOf]; omega
    · obtain rfl : p = 7 := by omega
      obtain ⟨a', c', rfl⟩ := len_of_own hown
      clear HI HJ HH
      go_wp2
      go_ret
      exact ⟨_, rfl, hown, hbel⟩
end Go.Proofs.Ytidmkdaegglepaa
