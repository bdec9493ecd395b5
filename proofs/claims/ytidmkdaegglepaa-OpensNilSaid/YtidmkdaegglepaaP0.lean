/- Descriptors in lists: plain laws. -/
import Derived.Test.YtidmkdaegglepaaM0
set_option linter.all false
namespace Go.Proofs.Ytidmkdaegglepaa

def Keys (l : List DE) : Prop := l.Pairwise fun a b => ¬ (a.pid = b.pid ∧ a.slot = b.slot)
theorem isAt_iff {p s : Int} {x : DE} : isAt p s x = true ↔ x.pid = p ∧ x.slot = s := by simp [isAt]
theorem look_cons (y : DE) (r : List DE) (p s : Int) : look (y :: r) p s = if y.pid = p ∧ y.slot = s then some y else look r p s := by
  unfold look
  by_cases h : isAt p s y = true
  · rw [List.find?_cons_of_pos h, if_pos (isAt_iff.1 h)]
  · rw [List.find?_cons_of_neg h, if_neg (fun h2 => h (isAt_iff.2 h2))]
theorem look_app (a b : List DE) (p s : Int) : look (a ++ b) p s = (look a p s).or (look b p s) := by
  unfold look; rw [List.find?_append]
theorem look_at {l : List DE} {p s : Int} {x : DE} (h : look l p s = some x) : x ∈ l ∧ x.pid = p ∧ x.slot = s := by
  unfold look at h
  exact ⟨List.mem_of_find?_eq_some h, isAt_iff.1 (List.find?_some h)⟩
theorem look_none {l : List DE} {p s : Int} : look l p s = none ↔ ∀ x ∈ l, ¬ (x.pid = p ∧ x.slot = s) := by
  unfold look
  rw [List.find?_eq_none]
  exact ⟨fun h x hx h2 => h x hx (isAt_iff.2 h2), fun h x hx h2 => h x hx (isAt_iff.1 h2)⟩
theorem look_upd (x : DE) (p s : Int) : ∀ l : List DE, look (updL l x) p s = if p = x.pid ∧ s = x.slot then some x else look l p s := by
  intro l
  induction l with
  | nil =>
    rw [updL, look_cons]
    by_cases h : p = x.pid ∧ s = x.slot
    · rw [if_pos h, if_pos ⟨h.1.symm, h.2.symm⟩]
    · rw [if_neg h, if_neg (fun h2 => h ⟨h2.1.symm, h2.2.symm⟩)]
  | cons y r ih =>
    unfold updL
    by_cases hy : isAt x.pid x.slot y = true
    · rw [if_pos hy, look_cons, look_cons]
      have hy' := isAt_iff.1 hy
      by_cases h : p = x.pid ∧ s = x.slot
      · rw [if_pos h, if_pos ⟨h.1.symm, h.2.symm⟩]
      · rw [if_neg h, if_neg (fun h2 => h ⟨h2.1.symm, h2.2.symm⟩), if_neg (fun h2 => h ⟨by rw [← hy'.1, h2.1], by rw [← hy'.2, h2.2]⟩)]
    · rw [if_neg hy, look_cons, look_cons, ih]
      have hy' : ¬ (y.pid = x.pid ∧ y.slot = x.slot) := fun h => hy (isAt_iff.2 h)
      by_cases h : p = x.pid ∧ s = x.slot
      · rw [if_pos h, if_neg (fun h2 => hy' ⟨by rw [h2.1, h.1], by rw [h2.2, h.2]⟩), if_pos h]
      · rw [if_neg h, if_neg h]
theorem mem_upd {x z : DE} : ∀ {l : List DE}, z ∈ updL l x → z = x ∨ z ∈ l := by
  intro l
  induction l with
  | nil => intro h; simp [updL] at h; exact .inl h
  | cons y r ih =>
    intro h
    unfold updL at h
    split at h
    · rcases List.mem_cons.1 h with h | h
      · exact .inl h
      · exact .inr (List.mem_cons_of_mem _ h)
    · rcases List.mem_cons.1 h with h | h
      · exact .inr (h ▸ List.mem_cons_self)
      · rcases ih h with h | h
        · exact .inl h
        · exact .inr (List.mem_cons_of_mem _ h)
theorem keys_upd (x : DE) : ∀ l : List DE, Keys l → Keys (updL l x) := by
  intro l
  induction l with
  | nil => intro _; simp [updL, Keys]
  | cons y r ih =>
    intro h
    have h1 := List.pairwise_cons.1 h
    unfold updL
    by_cases hy : isAt x.pid x.slot y = true
    · rw [if_pos hy]
      have hy' := isAt_iff.1 hy
      exact List.pairwise_cons.2 ⟨fun z hz h2 => h1.1 z hz ⟨by rw [hy'.1, h2.1], by rw [hy'.2, h2.2]⟩, h1.2⟩
    · rw [if_neg hy]
      refine List.pairwise_cons.2 ⟨fun z hz h2 => ?_, ih h1.2⟩
      rcases mem_upd hz with rfl | hz
      · exact hy (isAt_iff.2 h2)
      · exact h1.1 z hz h2
theorem del_sub {p s : Int} : ∀ {l : List DE}, (delL l p s).Sublist l := by
  intro l
  induction l with
  | nil => exact List.Sublist.refl _
  | cons y r ih =>
    unfold delL
    split
    · exact List.sublist_cons_self _ _
    · exact ih.cons₂ _
theorem keys_del (p s : Int) {l : List DE} (h : Keys l) : Keys (delL l p s) := List.Pairwise.sublist del_sub h
theorem look_del (p0 s0 p s : Int) : ∀ l : List DE, Keys l → look (delL l p0 s0) p s = if p = p0 ∧ s = s0 then none else look l p s := by
  intro l
  induction l with
  | nil => intro _; simp [delL, look]
  | cons y r ih =>
    intro h
    have h1 := List.pairwise_cons.1 h
    unfold delL
    by_cases hy : isAt p0 s0 y = true
    · rw [if_pos hy, look_cons]
      have hy' := isAt_iff.1 hy
      by_cases h2 : p = p0 ∧ s = s0
      · rw [if_pos h2, look_none]
        intro z hz h3
        exact h1.1 z hz ⟨by rw [hy'.1, h3.1, h2.1], by rw [hy'.2, h3.2, h2.2]⟩
      · rw [if_neg h2, if_neg (fun h3 => h2 ⟨by rw [← h3.1, hy'.1], by rw [← h3.2, hy'.2]⟩)]
    · rw [if_neg hy, look_cons, look_cons, ih h1.2]
      have hy' : ¬ (y.pid = p0 ∧ y.slot = s0) := fun h => hy (isAt_iff.2 h)
      by_cases h2 : p = p0 ∧ s = s0
      · rw [if_pos h2, if_neg (fun h3 => hy' ⟨by rw [h3.1, h2.1], by rw [h3.2, h2.2]⟩)]
        simp [h2]
      · simp [h2]

/-- The reference's list with a descriptor more. -/
def insL : List DE → DE → List DE
  | [], x => [x]
  | y :: r, x => if x.pid < y.pid ∨ (y.pid = x.pid ∧ x.slot < y.slot) then x :: y :: r else y :: insL r x
theorem look_ins (x : DE) (p s : Int) : ∀ l : List DE, look l x.pid x.slot = none → look (insL l x) p s = if p = x.pid ∧ s = x.slot then some x else look l p s := by
  intro l
  induction l with
  | nil =>
    intro _
    rw [insL, look_cons]
    by_cases h : p = x.pid ∧ s = x.slot
    · rw [if_pos h, if_pos ⟨h.1.symm, h.2.symm⟩]
    · rw [if_neg h, if_neg (fun h2 => h ⟨h2.1.symm, h2.2.symm⟩)]
  | cons y r ih =>
    intro hn
    have hy' : ¬ (y.pid = x.pid ∧ y.slot = x.slot) := look_none.1 hn y List.mem_cons_self
    have hr : look r x.pid x.slot = none := look_none.2 fun z hz => look_none.1 hn z (List.mem_cons_of_mem _ hz)
    unfold insL
    split
    · rw [look_cons]
      by_cases h : p = x.pid ∧ s = x.slot
      · rw [if_pos h, if_pos ⟨h.1.symm, h.2.symm⟩]
      · rw [if_neg h, if_neg (fun h2 => h ⟨h2.1.symm, h2.2.symm⟩)]
    · rw [look_cons, look_cons, ih hr]
      by_cases h : p = x.pid ∧ s = x.slot
      · rw [if_pos h, if_neg (fun h2 => hy' ⟨by rw [h2.1, h.1], by rw [h2.2, h.2]⟩), if_pos h]
      · rw [if_neg h, if_neg h]
theorem mem_ins {x z : DE} : ∀ {l : List DE}, z ∈ insL l x ↔ z = x ∨ z ∈ l := by
  intro l
  induction l with
  | nil => simp [insL]
  | cons y r ih =>
    unfold insL
    split
    · simp
    · simp [ih]
      constructor
      · rintro (h | h | h)
        · exact .inr (.inl h)
        · exact .inl h
        · exact .inr (.inr h)
      · rintro (h | h | h)
        · exact .inr (.inl h)
        · exact .inl h
        · exact .inr (.inr h)
/-- Right descriptors. -/
def Rg (x : DE) : Prop := 1 ≤ x.pid ∧ x.pid ≤ 6 ∧ 0 ≤ x.slot ∧ x.slot ≤ 5 ∧ 0 ≤ x.obj ∧ 0 ≤ x.off ∧ ((x.kind = 1 ∧ x.obj = 0 ∧ x.off = 0) ∨ (x.kind = 2 ∧ x.obj < 4 ∧ x.off < 33) ∨ ((x.kind = 3 ∨ x.kind = 4) ∧ x.obj < 3 ∧ x.off = 0))
instance (x : DE) : Decidable (Rg x) := by unfold Rg; infer_instance
def rg (x : DE) : Bool := decide (Rg x)
def Lt (a b : DE) : Prop := a.pid < b.pid ∨ (a.pid = b.pid ∧ a.slot < b.slot)
structure Good (l : List DE) : Prop where
  sorted : l.Pairwise Lt
  right : ∀ x ∈ l, Rg x
theorem good_nil : Good [] := ⟨List.Pairwise.nil, fun x h => by cases h⟩
theorem sorted_ins (x : DE) : ∀ l : List DE, l.Pairwise Lt → look l x.pid x.slot = none → (insL l x).Pairwise Lt := by
  intro l
  induction l with
  | nil => intro _ _; simp [insL]
  | cons y r ih =>
    intro h hn
    have h1 := List.pairwise_cons.1 h
    have hy' : ¬ (y.pid = x.pid ∧ y.slot = x.slot) := look_none.1 hn y List.mem_cons_self
    have hr : look r x.pid x.slot = none := look_none.2 fun z hz => look_none.1 hn z (List.mem_cons_of_mem _ hz)
    unfold insL
    split
    · rename_i hlt
      refine List.pairwise_cons.2 ⟨fun z hz => ?_, h⟩
      rcases List.mem_cons.1 hz with rfl | hz
      · unfold Lt; omega
      · have := h1.1 z hz
        unfold Lt at this ⊢
        omega
    · rename_i hlt
      refine List.pairwise_cons.2 ⟨fun z hz => ?_, ih h1.2 hr⟩
      rcases mem_ins.1 hz with rfl | hz
      · unfold Lt; omega
      · exact h1.1 z hz
theorem Good.ins {l : List DE} (h : Good l) {x : DE} (hx : Rg x) (hn : look l x.pid x.slot = none) : Good (insL l x) :=
  ⟨sorted_ins x l h.sorted hn, fun z hz => by rcases mem_ins.1 hz with rfl | hz; exact hx; exact h.right z hz⟩
theorem Good.filter {l : List DE} (h : Good l) (f : DE → Bool) : Good (l.filter f) :=
  ⟨List.Pairwise.sublist List.filter_sublist h.sorted, fun x hx => h.right x (List.mem_filter.1 hx).1⟩
theorem Good.keys {l : List DE} (h : Good l) : Keys l := h.sorted.imp fun {a b} hab h2 => by unfold Lt at hab; omega
theorem look_mem {l : List DE} (h : Keys l) : ∀ x ∈ l, look l x.pid x.slot = some x := by
  induction l with
  | nil => intro x hx; cases hx
  | cons y r ih =>
    intro x hx
    have h1 := List.pairwise_cons.1 h
    rw [look_cons]
    rcases List.mem_cons.1 hx with rfl | hx
    · simp
    · rw [if_neg (h1.1 x hx), ih h1.2 x hx]
theorem look_filter {l : List DE} (h : Keys l) (f : DE → Bool) (p s : Int) : look (l.filter f) p s = (look l p s).filter f := by
  rcases e : look l p s with _ | x
  · rw [Option.filter_none]
    exact look_none.2 fun z hz => look_none.1 e z (List.mem_filter.1 hz).1
  · obtain ⟨h1, h2, h3⟩ := look_at e
    by_cases hf : f x = true
    · have : x ∈ l.filter f := List.mem_filter.2 ⟨h1, hf⟩
      have := look_mem (l := l.filter f) (List.Pairwise.sublist List.filter_sublist h) x this
      rw [h2, h3] at this
      rw [this, Option.filter_some, if_pos hf]
    · rw [Option.filter_some, if_neg hf]
      refine look_none.2 fun z hz h4 => ?_
      have h5 := (List.mem_filter.1 hz)
      have h6 := look_mem h z h5.1
      rw [h4.1, h4.2, e] at h6
      cases h6
      exact hf h5.2

/-- A process's descriptors, slot by slot; and all. -/
def slots : List Int := [0, 1, 2, 3, 4, 5]
def ofL (l : List DE) (p : Int) : List DE := slots.filterMap (look l p)
def allL (l : List DE) : List DE := ofL l 1 ++ (ofL l 2 ++ (ofL l 3 ++ (ofL l 4 ++ (ofL l 5 ++ ofL l 6))))
def rank (x : DE) : Int := x.pid * 6 + x.slot
theorem uniq : ∀ (a b : List DE), a.Pairwise Lt → b.Pairwise Lt → (∀ x, x ∈ a ↔ x ∈ b) → a = b := by
  intro a
  induction a with
  | nil =>
    intro b _ _ h
    cases b with
    | nil => rfl
    | cons y r => exact absurd ((h y).2 List.mem_cons_self) (by simp)
  | cons x r ih =>
    intro b ha hb h
    cases b with
    | nil => exact absurd ((h x).1 List.mem_cons_self) (by simp)
    | cons y t =>
      have h1 := List.pairwise_cons.1 ha
      have h2 := List.pairwise_cons.1 hb
      have irr : ∀ z : DE, ¬ Lt z z := fun z h => by unfold Lt at h; omega
      have e : x = y := by
        rcases List.mem_cons.1 ((h x).1 List.mem_cons_self) with e | hx
        · exact e
        · rcases List.mem_cons.1 ((h y).2 List.mem_cons_self) with e | hy
          · exact e.symm
          · have h3 := h2.1 x hx
            have h4 := h1.1 y hy
            unfold Lt at h3 h4
            omega
      subst e
      congr 1
      refine ih t h1.2 h2.2 fun z => ⟨fun hz => ?_, fun hz => ?_⟩
      · rcases List.mem_cons.1 ((h z).1 (List.mem_cons_of_mem _ hz)) with rfl | h3
        · exact absurd (h1.1 _ hz) (irr _)
        · exact h3
      · rcases List.mem_cons.1 ((h z).2 (List.mem_cons_of_mem _ hz)) with rfl | h3
        · exact absurd (h2.1 _ hz) (irr _)
        · exact h3
theorem sorted_of (l : List DE) (p : Int) : (ofL l p).Pairwise Lt := by
  have : slots.Pairwise (fun a b => a < b) := by decide
  unfold ofL
  refine List.Pairwise.filterMap (R := fun a b => a < b) (look l p) (fun a b hab x hx y hy => ?_) this
  have h1 := look_at (l := l) hx
  have h2 := look_at (l := l) hy
  exact .inr ⟨by rw [h1.2.1, h2.2.1], by rw [h1.2.2, h2.2.2]; exact hab⟩
theorem mem_of {l : List DE} (h : Good l) {p : Int} {x : DE} : x ∈ ofL l p ↔ x ∈ l ∧ x.pid = p := by
  unfold ofL
  rw [List.mem_filterMap]
  constructor
  · rintro ⟨s, _, hs⟩
    have h1 := look_at hs
    exact ⟨h1.1, h1.2.1⟩
  · rintro ⟨h1, rfl⟩
    refine ⟨x.slot, ?_, look_mem h.keys x h1⟩
    have := h.right x h1
    unfold Rg at this
    have h2 : x.slot = 0 ∨ x.slot = 1 ∨ x.slot = 2 ∨ x.slot = 3 ∨ x.slot = 4 ∨ x.slot = 5 := by omega
    simp [slots, h2]
theorem of_filter {l : List DE} (h : Good l) (p : Int) : ofL l p = l.filter (fun x => x.pid == p) := by
  refine uniq _ _ (sorted_of l p) (h.filter _).sorted fun x => ?_
  rw [mem_of h, List.mem_filter]
  simp
theorem sorted_app {a b : List DE} (ha : a.Pairwise Lt) (hb : b.Pairwise Lt) (h : ∀ x ∈ a, ∀ y ∈ b, Lt x y) : (a ++ b).Pairwise Lt := List.pairwise_append.2 ⟨ha, hb, h⟩
theorem all_eq {l : List DE} (h : Good l) : allL l = l := by
  have key : ∀ p q : Int, p < q → ∀ x ∈ ofL l p, ∀ y ∈ ofL l q, Lt x y := fun p q hpq x hx y hy => .inl (by
    rw [(mem_of h).1 hx |>.2, (mem_of h).1 hy |>.2]; exact hpq)
  refine uniq _ _ ?_ h.sorted fun x => ?_
  · unfold allL
    refine sorted_app (sorted_of l 1) (sorted_app (sorted_of l 2) (sorted_app (sorted_of l 3) (sorted_app (sorted_of l 4) (sorted_app (sorted_of l 5) (sorted_of l 6) ?_) ?_) ?_) ?_) ?_
    all_goals
      intro x hx y hy
      try simp only [List.mem_append] at hy
    · exact key 5 6 (by omega) x hx y hy
    · rcases hy with hy | hy
      · exact key 4 5 (by omega) x hx y hy
      · exact key 4 6 (by omega) x hx y hy
    · rcases hy with hy | hy | hy
      · exact key 3 4 (by omega) x hx y hy
      · exact key 3 5 (by omega) x hx y hy
      · exact key 3 6 (by omega) x hx y hy
    · rcases hy with hy | hy | hy | hy
      · exact key 2 3 (by omega) x hx y hy
      · exact key 2 4 (by omega) x hx y hy
      · exact key 2 5 (by omega) x hx y hy
      · exact key 2 6 (by omega) x hx y hy
    · rcases hy with hy | hy | hy | hy | hy
      · exact key 1 2 (by omega) x hx y hy
      · exact key 1 3 (by omega) x hx y hy
      · exact key 1 4 (by omega) x hx y hy
      · exact key 1 5 (by omega) x hx y hy
      · exact key 1 6 (by omega) x hx y hy
  · unfold allL
    simp only [List.mem_append, mem_of h]
    constructor
    · rintro (h1 | h1 | h1 | h1 | h1 | h1) <;> exact h1.1
    · intro h1
      have := h.right x h1
      unfold Rg at this
      have h2 : x.pid = 1 ∨ x.pid = 2 ∨ x.pid = 3 ∨ x.pid = 4 ∨ x.pid = 5 ∨ x.pid = 6 := by omega
      rcases h2 with h2 | h2 | h2 | h2 | h2 | h2 <;> simp [h1, h2]
end Go.Proofs.Ytidmkdaegglepaa
