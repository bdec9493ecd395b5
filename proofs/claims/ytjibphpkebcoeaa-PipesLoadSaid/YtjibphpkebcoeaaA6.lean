/- The pipes' contracts, of the whole table, 2. -/
import Derived.Test.YtjibphpkebcoeaaA5
set_option linter.all false
namespace Go.Proofs.Ytjibphpkebcoeaa
open Go.RowKit

def wrE (s : PS) (id : Int) (x : ByteArray) : Int :=
  if id < 0 ∨ 3 ≤ id then 1 else match s id.toNat with
    | none => 6
    | some (_, d) => if 16 < x.size + d.size then 5 else 0
def wrS (s : PS) (id : Int) (x : ByteArray) : PS :=
  if id < 0 ∨ 3 ≤ id then s else match s id.toNat with
    | none => s
    | some (c, d) => if 16 < x.size + d.size then s else up s id.toNat (some (c, d ++ x))
def rdE (s : PS) (id n : Int) : Int :=
  if n < 0 then 1 else if id < 0 ∨ 3 ≤ id then 1 else match s id.toNat with
    | none => 6
    | some _ => 0
def rdV (s : PS) (id n : Int) : ByteArray :=
  if n < 0 then ByteArray.empty else if id < 0 ∨ 3 ≤ id then ByteArray.empty else match s id.toNat with
    | none => ByteArray.empty
    | some (_, d) => if (d.size : Int) < n then d else d.extract 0 n.toNat
def rdS (s : PS) (id n : Int) : PS :=
  if n < 0 then s else if id < 0 ∨ 3 ≤ id then s else match s id.toNat with
    | none => s
    | some (c, d) => if (d.size : Int) < n then up s id.toNat (some (c, ByteArray.empty)) else up s id.toNat (some (c, d.extract n.toNat d.size))
def waE (s : PS) (id : Int) : Int :=
  if id < 0 ∨ 3 ≤ id then 1 else match s id.toNat with
    | none => 6
    | some _ => 0
def waN (s : PS) (id : Int) : Int :=
  if id < 0 ∨ 3 ≤ id then 0 else match s id.toNat with
    | none => 0
    | some (_, d) => d.size
def clS (s : PS) (id : Int) : PS :=
  if id < 0 ∨ 3 ≤ id then s else match s id.toNat with
    | none => s
    | some _ => up s id.toNat none

theorem write_pr (w : World) (B b : Nat) (s : PS) (id : Int) (x : ByteArray) (h : PR w B b s) :
    Calls Try.prog 16 #[.pointer (some ⟨b, 0, none⟩), .int .i64 id, .string x] w fun e w' => e = .returned (.int .i64 (wrE s id x)) ∧ PR w' B b (wrS s id x) ∧ Mod (Own b s) w w' := by
  by_cases hid : id < 0 ∨ 3 ≤ id
  · rw [wrE, wrS, if_pos hid, if_pos hid]
    exact (write_arg _ id x w hid).mono fun e w' ⟨he, hw⟩ => by subst hw; exact ⟨he, h, Mod.refl _ _⟩
  obtain ⟨i, rfl⟩ := Int.eq_ofNat_of_zero_le (show 0 ≤ id by omega)
  have hi : i < 3 := by omega
  rw [wrE, wrS, if_neg hid, if_neg hid, Int.toNat_natCast]
  rcases e : s i with _ | ⟨c, d⟩
  · exact (write_none s b i x w hi e h.Tab).mono fun e w' ⟨he, hw⟩ => by subst hw; exact ⟨he, h, Mod.refl _ _⟩
  · obtain ⟨hc, hd, hl⟩ := h.pipe i hi c d e
    by_cases hf : 16 < x.size + d.size
    · simp only [if_pos hf]
      exact (write_full s b i c d x w hi e h.Tab (hc.cell 0) hd hf).mono fun e w' ⟨he, hw⟩ => by subst hw; exact ⟨he, h, Mod.refl _ _⟩
    · simp only [if_neg hf]
      refine (write_some s b i c d x w hi e h.Tab (hc.cell 0) (hc.frozen 0) hd (by omega)).mono fun e' w' ⟨he, hw⟩ => ?_
      subst hw
      exact ⟨he, h.put i hi e _ (by rw [ByteArray.size_append]; omega), (Mod.refl _ _).setCell (.inl (.inr ⟨i, d, hi, e⟩)) _⟩

theorem read_pr (w : World) (B b : Nat) (s : PS) (id n : Int) (h : PR w B b s) :
    Calls Try.prog 17 #[.pointer (some ⟨b, 0, none⟩), .int .i64 id, .int .i64 n] w fun e w' =>
      e = .returned (.tuple #[.string (rdV s id n), .int .i64 (rdE s id n)]) ∧ PR w' B b (rdS s id n) ∧ Mod (Own b s) w w' := by
  by_cases hn : n < 0
  · simp only [rdE, rdV, rdS, if_pos hn]
    exact (read_neg _ id n w hn).mono fun e w' ⟨he, hw⟩ => by subst hw; exact ⟨he, h, Mod.refl _ _⟩
  simp only [rdE, rdV, rdS, if_neg hn]
  by_cases hid : id < 0 ∨ 3 ≤ id
  · simp only [if_pos hid]
    exact (read_arg _ id n w (by omega) hid).mono fun e w' ⟨he, hw⟩ => by subst hw; exact ⟨he, h, Mod.refl _ _⟩
  obtain ⟨i, rfl⟩ := Int.eq_ofNat_of_zero_le (show 0 ≤ id by omega)
  have hi : i < 3 := by omega
  simp only [if_neg hid, Int.toNat_natCast]
  rcases e : s i with _ | ⟨c, d⟩
  · exact (read_none s b i n w (by omega) hi e h.Tab).mono fun e w' ⟨he, hw⟩ => by subst hw; exact ⟨he, h, Mod.refl _ _⟩
  · obtain ⟨hc, hd, hl⟩ := h.pipe i hi c d e
    by_cases hf : (d.size : Int) < n
    · simp only [if_pos hf]
      refine (read_all s b i c n d w hi e h.Tab (hc.cell 0) (hc.frozen 0) hd hf).mono fun e' w' ⟨he, hw⟩ => ?_
      subst hw
      exact ⟨he, h.put i hi e _ (by simp), (Mod.refl _ _).setCell (.inl (.inr ⟨i, d, hi, e⟩)) _⟩
    · simp only [if_neg hf]
      obtain ⟨k, rfl⟩ := Int.eq_ofNat_of_zero_le (show 0 ≤ n by omega)
      rw [Int.toNat_natCast]
      refine (read_some s b i c k d w hi e h.Tab (hc.cell 0) (hc.frozen 0) hd (by omega)).mono fun e' w' ⟨he, hw⟩ => ?_
      subst hw
      exact ⟨he, h.put i hi e _ (by rw [ByteArray.size_extract]; omega), (Mod.refl _ _).setCell (.inl (.inr ⟨i, d, hi, e⟩)) _⟩

theorem waits_pr (w : World) (B b : Nat) (s : PS) (id : Int) (h : PR w B b s) :
    Calls Try.prog 35 #[.pointer (some ⟨b, 0, none⟩), .int .i64 id] w fun e w' => e = .returned (.tuple #[.int .i64 (waN s id), .int .i64 (waE s id)]) ∧ w = w' := by
  by_cases hid : id < 0 ∨ 3 ≤ id
  · rw [waE, waN, if_pos hid, if_pos hid]
    exact waits_arg _ id w hid
  obtain ⟨i, rfl⟩ := Int.eq_ofNat_of_zero_le (show 0 ≤ id by omega)
  have hi : i < 3 := by omega
  rw [waE, waN, if_neg hid, if_neg hid, Int.toNat_natCast]
  rcases e : s i with _ | ⟨c, d⟩
  · exact waits_none s b i w hi e h.Tab
  · obtain ⟨hc, hd, hl⟩ := h.pipe i hi c d e
    exact waits_some s b i c d w hi e h.Tab (hc.cell 0)

theorem close_pr (w : World) (B b : Nat) (s : PS) (id : Int) (h : PR w B b s) :
    Calls Try.prog 36 #[.pointer (some ⟨b, 0, none⟩), .int .i64 id] w fun e w' => e = .returned (.int .i64 (waE s id)) ∧ PR w' B b (clS s id) ∧ Mod (Own b s) w w' := by
  by_cases hid : id < 0 ∨ 3 ≤ id
  · rw [waE, clS, if_pos hid, if_pos hid]
    exact (close_arg _ id w hid).mono fun e w' ⟨he, hw⟩ => by subst hw; exact ⟨he, h, Mod.refl _ _⟩
  obtain ⟨i, rfl⟩ := Int.eq_ofNat_of_zero_le (show 0 ≤ id by omega)
  have hi : i < 3 := by omega
  rw [waE, clS, if_neg hid, if_neg hid, Int.toNat_natCast]
  rcases e : s i with _ | ⟨c, d⟩
  · exact (close_none s b i w hi e h.Tab).mono fun e w' ⟨he, hw⟩ => by subst hw; exact ⟨he, h, Mod.refl _ _⟩
  · refine (close_some s b i c d w hi e h.Tab).mono fun e' w' ⟨he, hw⟩ => ?_
    subst hw
    exact ⟨he, h.closed i hi, (Mod.refl _ _).setCell (.inl (.inl rfl)) _⟩

theorem list_pr (w : World) (B b : Nat) (s : PS) (h : PR w B b s) :
    Calls Try.prog 34 #[.pointer (some ⟨b, 0, none⟩)] w fun e w' => ∃ v, e = .returned v ∧ w'.ownsRow w.heap.size 74 2 v (cnts s 3) (infos s 3) ∧ Below w.heap.size w w' :=
  list_any s b w h.tab fun i hi c d e => ⟨(h.pipe i hi c d e).1.lt, (h.pipe i hi c d e).1.cell 0⟩
end Go.Proofs.Ytjibphpkebcoeaa
