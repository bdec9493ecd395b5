/- Walks over the reference's pipes. -/
import Derived.Test.YtjibphpkebcoeaaC0
set_option linter.all false
namespace Go.Proofs.Ytjibphpkebcoeaa
open Go.RowKit

abbrev Ent := Int × ByteArray
def ec (x : Ent) : List Value := [.int .i64 x.1, .string x.2]
theorem ec_len (x : Ent) : (ec x).length = 2 := rfl
def fidx : List Ent → Int → Int
  | [], _ => -1
  | x :: l, id => if x.1 = id then 0 else if fidx l id = -1 then -1 else fidx l id + 1
theorem fidx_ge (id : Int) : ∀ l : List Ent, -1 ≤ fidx l id ∧ fidx l id < l.length
  | [] => by simp [fidx]
  | x :: l => by
    have := fidx_ge id l
    simp only [fidx, List.length_cons]
    split
    · omega
    · split <;> omega
theorem fidx_at {id : Int} : ∀ {l : List Ent} {k : Nat} {x : Ent}, l[k]? = some x → x.1 = id → (∀ (i : Nat) (y : Ent), i < k → l[i]? = some y → y.1 ≠ id) → fidx l id = k
  | [], k, x, h, _, _ => by simp at h
  | a :: l, 0, x, h, hx, _ => by simp at h; subst h; simp [fidx, hx]
  | a :: l, k + 1, x, h, hx, hn => by
    have ha := hn 0 a (by omega) rfl
    have := fidx_at (l := l) (k := k) (x := x) (by simpa using h) hx (fun i y hi hy => hn (i + 1) y (by omega) (by simpa using hy))
    simp only [fidx, if_neg ha, this]
    rw [if_neg (by omega)]
    omega
theorem fidx_no {id : Int} : ∀ {l : List Ent}, (∀ (i : Nat) (y : Ent), l[i]? = some y → y.1 ≠ id) → fidx l id = -1
  | [], _ => rfl
  | a :: l, hn => by
    have ha := hn 0 a rfl
    have := fidx_no (l := l) (fun i y hy => hn (i + 1) y (by simpa using hy))
    simp [fidx, ha, this]

set_option maxHeartbeats 800000 in
set_option maxRecDepth 100000 in
theorem at_ref (l : List Ent) (rb : Nat) (v : Value) (id : Int) (w : World) (h : Blk w rb 63 #[v]) (hin : Inp w w.heap.size v l.length 2 (atl ec l)) (hlen : l.length ≤ 1000) :
    Calls Try.prog 52 #[.pointer (some ⟨rb, 0, none⟩), .int .i64 id] w fun e w' => e = .returned (.int .i64 (fidx l id)) ∧ Below w.heap.size w w' := by
  obtain ⟨_, a, cap, rfl, hc⟩ := hin
  have k0 := h.cell 0
  simp at k0
  go_enter Try.func52, Try.ntmps52
  go_wp2
  go_loopw [12] (fun i wr => ∃ k : Nat, k ≤ l.length ∧ i = .int .i64 k ∧ Hid (∀ (i : Nat) (y : Ent), i < k → l[i]? = some y → y.1 ≠ id) ∧ Below w.heap.size w wr) (fun i _ => l.length - (intOf i).toNat)
  case atStart => exact ⟨0, by omega, rfl, fun i y h => absurd h (by omega), Below.refl _ _⟩
  case round =>
    obtain ⟨k, hk, rfl, hs, hbel⟩ := hrel
    by_cases hlt : k < l.length
    · obtain ⟨b, off, rfl, hb, hcl⟩ := hc (by omega)
      have hx : l[k]? = some (l[k]'hlt) := List.getElem?_eq_getElem hlt
      generalize l[k]'hlt = x at hx
      have c0 := (hbel.cell (p := ⟨b, _, none⟩) hb).trans (hcl k hlt 0 (by omega))
      have c1 := (hbel.cell (p := ⟨b, _, none⟩) hb).trans (hcl k hlt 1 (by omega))
      rw [atl_get hx (v := .int .i64 x.1) rfl] at c0
      rw [atl_get hx (v := .string x.2) rfl] at c1
      simp only [Nat.add_zero] at c0
      clear hcl hc
      have HX := Lib.hid hx
      clear hx
      by_cases he : x.1 = id
      · have hf := fidx_at HX.out he hs
        have he' : (x.1 == id) = true := by simpa using he
        have HF := Lib.hid hf
        clear hf he
        go_wp2
        go_ret
        rw [HF.out]
        exact ⟨rfl, hbel.alloc hbel.size _⟩
      · have he' : (x.1 == id) = false := by simpa using he
        have HE := Lib.hid he
        clear he
        go_wp2
        go_roundw
        case rel =>
          refine ⟨k + 1, by omega, by go_num, ?_, hbel.alloc hbel.size _⟩
          intro i y hi hy
          rcases Nat.lt_or_ge i k with h1 | h1
          · exact hs i y h1 hy
          · obtain rfl : i = k := by omega
            rw [HX.out] at hy
            cases hy
            exact HE.out
        case measure => simp [intOf]; omega
    · have hf := fidx_no (l := l) (id := id) fun i y hy => hs i y (by have := (List.getElem?_eq_some_iff.1 hy).1; omega) hy
      clear hc
      have HF := Lib.hid hf
      clear hf
      go_wp2
      go_ret
      rw [HF.out]
      exact ⟨rfl, hbel⟩
end Go.Proofs.Ytjibphpkebcoeaa
