/- Fork, Drop, Load in lists: plain laws. -/
import Derived.Test.YtidmkdaegglepaaQ9
set_option linter.all false
namespace Go.Proofs.Ytidmkdaegglepaa
open Go.RowKit

def setp (c : Int) (x : DE) : DE := { x with pid := c }
def forkF (c : Int) (acc l : List DE) : List DE := l.foldl (fun a e => insL a (setp c e)) acc
theorem fork_nil (c : Int) (acc : List DE) : forkF c acc [] = acc := rfl
theorem fork_snoc (c : Int) (acc l : List DE) (x : DE) : forkF c acc (l ++ [x]) = insL (forkF c acc l) (setp c x) := by
  unfold forkF; rw [List.foldl_append]; rfl
theorem mem_fork {c : Int} {z : DE} : ∀ {l acc : List DE}, z ∈ forkF c acc l ↔ z ∈ acc ∨ ∃ y ∈ l, z = setp c y := by
  intro l
  induction l with
  | nil => intro acc; simp [forkF]
  | cons y r ih =>
    intro acc
    have : forkF c acc (y :: r) = forkF c (insL acc (setp c y)) r := rfl
    rw [this, ih, mem_ins]
    constructor
    · rintro ((h | h) | ⟨u, hu, h⟩)
      · exact .inr ⟨y, List.mem_cons_self, h⟩
      · exact .inl h
      · exact .inr ⟨u, List.mem_cons_of_mem _ hu, h⟩
    · rintro (h | ⟨u, hu, h⟩)
      · exact .inl (.inr h)
      · rcases List.mem_cons.1 hu with rfl | hu
        · exact .inl (.inl h)
        · exact .inr ⟨u, hu, h⟩
theorem of_empty {L : List DE} (h : Good L) {c : Int} (hc : ofL L c = []) (s : Int) : look L c s = none := by
  refine look_none.2 fun x hx h2 => ?_
  have : x ∈ ofL L c := (mem_of h).2 ⟨hx, h2.1⟩
  rw [hc] at this
  cases this
theorem of_slots {L : List DE} (h : Good L) (p : Int) : (ofL L p).Pairwise (fun a b => a.slot ≠ b.slot) := by
  have h1 := sorted_of L p
  refine List.Pairwise.imp_of_mem (fun {a b} ha hb hab => ?_) h1
  have h2 := (mem_of h).1 ha
  have h3 := (mem_of h).1 hb
  unfold Lt at hab
  omega
theorem fork_none {L : List DE} (h : Good L) {p c : Int} (hc : ofL L c = []) {j : Nat} {x : DE} (hx : (ofL L p)[j]? = some x) :
    look (forkF c L ((ofL L p).take j)) (setp c x).pid (setp c x).slot = none := by
  refine look_none.2 fun z hz h2 => ?_
  rcases mem_fork.1 hz with hz | ⟨y, hy, rfl⟩
  · exact look_none.1 (of_empty h hc x.slot) z hz h2
  · have h3 := List.pairwise_iff_getElem.1 (of_slots h p)
    obtain ⟨i, hi, rfl⟩ := List.mem_iff_getElem.1 hy
    rw [List.length_take] at hi
    obtain ⟨hj, rfl⟩ := List.getElem?_eq_some_iff.1 hx
    have h4 := h3 i j (by omega) hj (by omega)
    rw [List.getElem_take] at h2
    exact h4 h2.2
theorem fork_next {l : List DE} {L : List DE} (c : Int) {j : Nat} {x : DE} (hx : l[j]? = some x) : forkF c L (l.take (j + 1)) = insL (forkF c L (l.take j)) (setp c x) := by
  rw [take_snoc_list hx, fork_snoc]
theorem good_fork {L : List DE} (h : Good L) {p c : Int} (hc : ofL L c = []) (h1 : 1 ≤ c) (h6 : c ≤ 6) : ∀ j : Nat, j ≤ (ofL L p).length → Good (forkF c L ((ofL L p).take j)) := by
  intro j
  induction j with
  | zero => intro _; simpa [forkF] using h
  | succ j ih =>
    intro hj
    have hx : (ofL L p)[j]? = some ((ofL L p)[j]'(by omega)) := List.getElem?_eq_getElem (by omega)
    rw [fork_next c hx]
    refine (ih (by omega)).ins ?_ (fork_none h hc hx)
    have h2 := h.right _ ((mem_of h).1 (List.getElem_mem (show j < (ofL L p).length by omega))).1
    unfold Rg at h2 ⊢
    unfold setp
    simp only
    omega
def forkE (L : List DE) (p c : Int) : Int :=
  if p < 1 ∨ 6 < p ∨ c < 1 ∨ 6 < c ∨ p = c then 1 else if ofL L c = [] then 0 else 7
def forkL (L : List DE) (p c : Int) : List DE :=
  if p < 1 ∨ 6 < p ∨ c < 1 ∨ 6 < c ∨ p = c then L else if ofL L c = [] then forkF c L (ofL L p) else L
theorem Good.fork {L : List DE} (h : Good L) (p c : Int) : Good (forkL L p c) := by
  unfold forkL
  split
  · exact h
  · split
    · rename_i h1 h2
      have := good_fork (p := p) h h2 (by omega) (by omega) (ofL L p).length (by omega)
      rwa [List.take_length] at this
    · exact h
theorem Good.len {L : List DE} (h : Good L) : L.length ≤ 36 := by
  have := all_len L
  rwa [all_eq h] at this

/-- Drop. -/
def dropD (p : Int) (x : DE) : Bool := !(x.pid == p)
def dropL (L : List DE) (p : Int) : List DE := L.filter (dropD p)
def delsL (p : Int) (L l : List DE) : List DE := l.foldl (fun a e => clL a p e.slot) L
theorem dels_snoc (p : Int) (L l : List DE) (x : DE) : delsL p L (l ++ [x]) = clL (delsL p L l) p x.slot := by
  unfold delsL; rw [List.foldl_append]; rfl
theorem look_dels (p : Int) (q s : Int) : ∀ l L : List DE, look (delsL p L l) q s = if q = p ∧ ∃ y ∈ l, y.slot = s then none else look L q s := by
  intro l
  induction l with
  | nil => intro L; simp [delsL]
  | cons y r ih =>
    intro L
    have : delsL p L (y :: r) = delsL p (clL L p y.slot) r := rfl
    rw [this, ih, look_cl]
    by_cases h1 : q = p
    · by_cases h2 : ∃ u ∈ r, u.slot = s
      · rw [if_pos ⟨h1, h2⟩, if_pos ⟨h1, by obtain ⟨u, hu, h⟩ := h2; exact ⟨u, List.mem_cons_of_mem _ hu, h⟩⟩]
      · rw [if_neg (fun h => h2 h.2)]
        by_cases h3 : s = y.slot
        · rw [if_pos ⟨h1, h3⟩, if_pos ⟨h1, y, List.mem_cons_self, h3.symm⟩]
        · rw [if_neg (fun h => h3 h.2), if_neg]
          rintro ⟨_, u, hu, h⟩
          rcases List.mem_cons.1 hu with rfl | hu
          · exact h3 h.symm
          · exact h2 ⟨u, hu, h⟩
    · rw [if_neg (fun h => h1 h.1), if_neg (fun h => h1 h.1), if_neg (fun h => h1 h.1)]
theorem look_drop {L : List DE} (h : Good L) (p q s : Int) : look (dropL L p) q s = look (delsL p L (ofL L p)) q s := by
  rw [look_dels, dropL, look_filter h.keys]
  rcases e : look L q s with _ | x
  · simp
  · obtain ⟨h1, h2, h3⟩ := look_at e
    by_cases h4 : q = p
    · rw [if_pos ⟨h4, x, (mem_of h).2 ⟨h1, h2.trans h4⟩, h3⟩]
      have : dropD p x = false := by simp [dropD, h2, h4]
      simp [Option.filter, this]
    · rw [if_neg (fun h => h4 h.1)]
      have : dropD p x = true := by simp [dropD, h2, h4]
      simp [Option.filter, this]
theorem left_drop (L : List DE) (p : Int) : leftL L p (-1) = dropL L p := by
  unfold leftL dropL
  congr 1
  funext x
  simp [keepD, dropD, bne]
theorem left_cl (L : List DE) (p s : Int) (hs : 0 ≤ s) : leftL L p s = clL L p s := by
  unfold leftL clL
  congr 1
  funext x
  simp [keepD, isAt, bne, hs, Bool.not_and]
theorem drop_len {L : List DE} (h : Good L) (p : Int) : L.length = (dropL L p).length + (ofL L p).length := by
  rw [of_filter h]
  unfold dropL dropD
  generalize L = l at *
  clear h
  induction l with
  | nil => rfl
  | cons y r ih =>
    rw [List.filter_cons, List.filter_cons, List.length_cons, ih]
    cases e : (y.pid == p)
    · simp; omega
    · simp; omega

/-- Load. -/
def ldS (a : Option (List DE)) (x : DE) : Option (List DE) := match a with
  | some acc => if rg x && !(atB acc x.pid x.slot) then some (insL acc x) else none
  | none => none
def loadL (l : List DE) : Option (List DE) := l.foldl ldS (some [])
theorem load_next {l : List DE} {j : Nat} {x : DE} (hx : l[j]? = some x) : loadL (l.take (j + 1)) = ldS (loadL (l.take j)) x := by
  unfold loadL
  rw [take_snoc_list hx, List.foldl_append]
  rfl
theorem ld_none : ∀ l : List DE, l.foldl ldS none = none := by
  intro l
  induction l with
  | nil => rfl
  | cons x r ih => exact ih
theorem load_stop {l : List DE} {j : Nat} (h : loadL (l.take j) = none) : loadL l = none := by
  unfold loadL at *
  conv => lhs; rw [← List.take_append_drop j l]
  rw [List.foldl_append, h, ld_none]
theorem load_good : ∀ (l acc r : List DE), Good acc → l.foldl ldS (some acc) = some r → Good r := by
  intro l
  induction l with
  | nil => intro acc r h e; cases e; exact h
  | cons x t ih =>
    intro acc r h e
    rw [List.foldl_cons] at e
    unfold ldS at e
    simp only at e
    split at e
    · rename_i h1
      refine ih _ _ (h.ins ?_ ?_) e
      · simp at h1; exact of_decide_eq_true h1.1
      · simp [atB] at h1; exact h1.2
    · have := ld_none t
      unfold ldS at this
      rw [this] at e
      cases e
theorem ins_last {x : DE} : ∀ {a : List DE}, (∀ y ∈ a, Lt y x) → insL a x = a ++ [x] := by
  intro a
  induction a with
  | nil => intro _; rfl
  | cons y r ih =>
    intro h
    have h1 := h y List.mem_cons_self
    unfold Lt at h1
    rw [insL, if_neg (by omega), ih (fun z hz => h z (List.mem_cons_of_mem _ hz))]
    rfl
theorem load_self : ∀ (b a : List DE), Good (a ++ b) → b.foldl ldS (some a) = some (a ++ b) := by
  intro b
  induction b with
  | nil => intro a _; simp
  | cons x r ih =>
    intro a h
    have h1 := h.sorted
    rw [List.pairwise_append] at h1
    have h2 : ∀ y ∈ a, Lt y x := fun y hy => h1.2.2 y hy x List.mem_cons_self
    have h3 : rg x = true := decide_eq_true (h.right x (by simp))
    have h4 : atB a x.pid x.slot = false := by
      unfold atB
      rw [look_none.2 fun y hy h5 => by have := h2 y hy; unfold Lt at this; omega]
      rfl
    have e : ldS (some a) x = some (a ++ [x]) := by
      unfold ldS
      simp [h3, h4, ins_last h2]
    rw [List.foldl_cons, e, ih (a ++ [x]) (by simpa using h)]
    simp
theorem load_same {L : List DE} (h : Good L) : loadL L = some L := load_self L [] (by simpa using h)

/-- Add, Dup, Seek, Close keep what is right. -/
theorem Good.put {L : List DE} (h : Good L) {x : DE} (hx : ∀ k, 0 ≤ k → k ≤ 5 → Rg { x with slot := k }) : Good (putL L x) := by
  unfold putL
  split
  · rename_i k hk
    have h1 := free_look hk
    exact h.ins (hx k h1.2.1 h1.2.2) h1.1
  · exact h
theorem Good.add {L : List DE} (h : Good L) (p k o : Int) : Good (addL L p k o) := by
  unfold addL
  split
  · rename_i hr
    refine h.put fun s h1 h2 => ?_
    have hr' : Rg (addD p k o) := of_decide_eq_true hr
    unfold Rg at hr' ⊢
    simp only [addD] at hr' ⊢
    refine ⟨hr'.1, hr'.2.1, h1, h2, hr'.2.2.2.2.1, hr'.2.2.2.2.2.1, hr'.2.2.2.2.2.2⟩
  · exact h
theorem Good.dup {L : List DE} (h : Good L) (p s : Int) : Good (dupL L p s) := by
  unfold dupL
  split
  · rename_i x hx
    refine h.put fun k h1 h2 => ?_
    have := h.right x (look_at hx).1
    unfold Rg at *
    simp only at *
    omega
  · exact h
theorem Good.sk {L : List DE} (h : Good L) (p s off : Int) : Good (skX L p s off) := by
  unfold skX
  split
  · rename_i x hx
    split
    · rename_i hr
      refine ⟨?_, fun y hy => ?_⟩
      · unfold skL
        rw [List.pairwise_map]
        refine h.sorted.imp fun {a b} hab => ?_
        unfold Lt at *
        have e : ∀ z : DE, (if isAt p s z then mv z off else z).pid = z.pid ∧ (if isAt p s z then mv z off else z).slot = z.slot := fun z => by split <;> exact ⟨rfl, rfl⟩
        rw [(e a).1, (e b).1, (e a).2, (e b).2]
        exact hab
      · unfold skL at hy
        obtain ⟨z, hz, rfl⟩ := List.mem_map.1 hy
        by_cases ha : isAt p s z = true
        · rw [if_pos ha]
          have h1 := isAt_iff.1 ha
          have h2 := look_mem h.keys z hz
          rw [h1.1, h1.2, hx] at h2
          cases h2
          exact of_decide_eq_true hr
        · rw [if_neg ha]
          exact h.right z hz
    · exact h
  · exact h
theorem Good.cl {L : List DE} (h : Good L) (p s : Int) : Good (clL L p s) := h.filter _
theorem Good.drop {L : List DE} (h : Good L) (p : Int) : Good (dropL L p) := h.filter _
/-- The reference's store at an index. -/
theorem sk_set {L : List DE} (h : Keys L) {p s off : Int} {j : Nat} {x : DE} (hx : L[j]? = some x) (ha : isAt p s x = true) : skL L p s off = L.set j (mv x off) := by
  unfold skL
  apply List.ext_getElem?
  intro i
  rw [List.getElem?_map, List.getElem?_set]
  by_cases e : j = i
  · subst e
    rw [if_pos rfl, hx, if_pos (List.getElem?_eq_some_iff.1 hx).1]
    simp [ha]
  · rw [if_neg e]
    rcases hy : L[i]? with _ | y
    · rfl
    · rw [Option.map_some, if_neg]
      intro hb
      obtain ⟨h1, rfl⟩ := List.getElem?_eq_some_iff.1 hx
      obtain ⟨h2, rfl⟩ := List.getElem?_eq_some_iff.1 hy
      have h3 := isAt_iff.1 ha
      have h4 := isAt_iff.1 hb
      rcases Nat.lt_or_ge i j with h5 | h5
      · exact List.pairwise_iff_getElem.1 h i j h2 h1 h5 ⟨by rw [h4.1, h3.1], by rw [h4.2, h3.2]⟩
      · exact List.pairwise_iff_getElem.1 h j i h1 h2 (by omega) ⟨by rw [h4.1, h3.1], by rw [h4.2, h3.2]⟩
theorem do_trans {w V W : World} {B b : Nat} (h : Mod (DO w B b) w V) (k : Mod (DO V B b) V W) : Mod (DO w B b) w W :=
  h.trans k fun i hi hx => by
    by_cases hd : DO w B b i
    · exact hd
    · rcases hx with rfl | ⟨h1, es, c, h2⟩
      · exact .inl rfl
      · exact .inr ⟨h1, es, c, (h.block i hi hd).symm.trans h2⟩
theorem rf_trans {w V W : World} {B b : Nat} (h : Mod (RF w B b) w V) (k : Mod (RF V B b) V W) : Mod (RF w B b) w W :=
  h.trans k fun i hi hx => by
    by_cases hd : RF w B b i
    · exact hd
    · rcases hx with rfl | ⟨h1, cur, h2⟩
      · exact .inl rfl
      · exact .inr ⟨h1, cur, (h.block i hi hd).symm.trans h2⟩
end Go.Proofs.Ytidmkdaegglepaa
