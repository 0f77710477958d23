/- Patterns, in plain lists: shapes, what is contained, insertions. -/
import Derived.Test.YtmcldnoofgkidaaPl0
set_option linter.unusedVariables false
set_option linter.unusedSimpArgs false
namespace Go.Pat

def shp (l : List Int) : List Int := l.map fun x => 1 + (l.countP (fun y => decide (y < x)) : Int)

theorem shp_length (l : List Int) : (shp l).length = l.length := by simp [shp]

theorem countP_le {α : Type} {p q : α → Bool} {l : List α} (h : ∀ x ∈ l, p x = true → q x = true) : l.countP p ≤ l.countP q := List.countP_mono_left h

theorem countP_lt {α : Type} {p q : α → Bool} : ∀ {l : List α}, (∀ x ∈ l, p x = true → q x = true) → ∀ {x : α}, x ∈ l → q x = true → p x = false → l.countP p < l.countP q
  | [], _, x, hx, _, _ => by simp at hx
  | y :: l, h, x, hx, h1, h2 => by
    have h' : ∀ z ∈ l, p z = true → q z = true := fun z hz => h z (by simp [hz])
    rw [List.countP_cons, List.countP_cons]
    rcases List.mem_cons.1 hx with rfl | hx
    · have := countP_le h'
      simp only [h1, h2, if_true, Bool.false_eq_true, if_false]
      omega
    · have := countP_lt h' hx h1 h2
      have hy := h y (by simp)
      cases hp : p y with
      | false => simp only [Bool.false_eq_true, if_false]; split <;> omega
      | true => rw [hy hp]; simp only [if_true]; omega

theorem shp_lt {l : List Int} {i j : Nat} (hi : i < l.length) (hj : j < l.length) : (shp l)[i]'(by rw [shp_length]; exact hi) < (shp l)[j]'(by rw [shp_length]; exact hj) ↔ l[i] < l[j] := by
  simp only [shp, List.getElem_map]
  constructor
  · intro h
    by_cases h' : l[i] < l[j]
    · exact h'
    · have : l.countP (fun y => decide (y < l[j])) ≤ l.countP (fun y => decide (y < l[i])) := countP_le fun x _ hx => by
        simp only [decide_eq_true_eq] at hx ⊢; omega
      omega
  · intro h
    have : l.countP (fun y => decide (y < l[i])) < l.countP (fun y => decide (y < l[j])) := countP_lt (x := l[i]) (fun x _ hx => by
      simp only [decide_eq_true_eq] at hx ⊢; omega) (List.getElem_mem hi) (by simpa using h) (by simp)
    omega

def iso (a b : List Int) : Prop := a.length = b.length ∧ ∀ i j (hi : i < a.length) (hj : j < a.length) (hi' : i < b.length) (hj' : j < b.length), a[i] < a[j] ↔ b[i] < b[j]

theorem countP_zip {P Q : Int → Bool} : ∀ {a b : List Int}, a.length = b.length → (∀ k (h : k < a.length) (h' : k < b.length), P a[k] = Q b[k]) → a.countP P = b.countP Q
  | [], [], _, _ => rfl
  | x :: a, y :: b, hl, h => by
    have h0 : P x = Q y := h 0 (by simp) (by simp)
    have ht := countP_zip (a := a) (b := b) (by simpa using hl) fun k h1 h2 => h (k + 1) (Nat.succ_lt_succ h1) (Nat.succ_lt_succ h2)
    rw [List.countP_cons, List.countP_cons, ht, h0]
  | [], _ :: _, h, _ => by simp at h
  | _ :: _, [], h, _ => by simp at h

theorem shp_iso {a b : List Int} : shp a = shp b ↔ iso a b := by
  constructor
  · intro h
    have hl : a.length = b.length := by rw [← shp_length a, h, shp_length]
    refine ⟨hl, fun i j hi hj hi' hj' => ?_⟩
    rw [← shp_lt hi hj, ← shp_lt hi' hj']
    simp only [h]
  · rintro ⟨hl, h⟩
    apply List.ext_getElem (by rw [shp_length, shp_length, hl])
    intro i h1 h2
    rw [shp_length] at h1 h2
    simp only [shp, List.getElem_map]
    congr 2
    refine countP_zip hl fun k hk hk' => ?_
    rw [Bool.eq_iff_iff, decide_eq_true_iff, decide_eq_true_iff]
    exact h k i hk h1 hk' h2

theorem iso_prefix {s t p q : List Int} (h : iso (s ++ t) (p ++ q)) (hl : s.length = p.length) : iso s p := by
  refine ⟨hl, fun i j hi hj hi' hj' => ?_⟩
  have := h.2 i j (by simp; omega) (by simp; omega) (by simp; omega) (by simp; omega)
  rwa [List.getElem_append_left hi, List.getElem_append_left hj, List.getElem_append_left hi', List.getElem_append_left hj'] at this

theorem shp_map {f : Int → Int} (hf : ∀ x y, f x < f y ↔ x < y) (s : List Int) : shp (s.map f) = shp s := by
  rw [shp_iso]
  refine ⟨by simp, fun i j hi hj hi' hj' => ?_⟩
  simp only [List.getElem_map]
  exact hf _ _

/-- Some numbers of the rest, behind those that are there, have the shape p. -/
def In (so rest p : List Int) : Prop := ∃ s, List.Sublist s rest ∧ shp (so ++ s) = p

theorem In_len {so rest p : List Int} (h : In so rest p) : so.length ≤ p.length := by
  obtain ⟨s, _, rfl⟩ := h
  rw [shp_length]; simp

theorem In_done {so rest p : List Int} (h : so.length = p.length) : In so rest p ↔ shp so = p := by
  constructor
  · rintro ⟨s, _, hs⟩
    have : s = [] := by
      have := congrArg List.length hs
      rw [shp_length] at this
      simp at this
      exact List.eq_nil_of_length_eq_zero (by omega)
    subst this
    simpa using hs
  · intro hs
    exact ⟨[], List.nil_sublist _, by simpa using hs⟩

theorem In_prefix {so rest p : List Int} (hp : shp p = p) (h : In so rest p) : shp so = shp (p.take so.length) := by
  have hl := In_len h
  obtain ⟨s, _, hs⟩ := h
  rw [shp_iso]
  have h1 : shp (so ++ s) = shp (p.take so.length ++ p.drop so.length) := by rw [List.take_append_drop, hp, hs]
  exact iso_prefix (shp_iso.1 h1) (by simp; omega)

theorem cons_sub {x : Int} {t : List Int} : ∀ {l : List Int}, List.Sublist (x :: t) l ↔ ∃ i, ∃ h : i < l.length, l[i] = x ∧ List.Sublist t (l.drop (i + 1))
  | [] => by simp
  | y :: l => by
    constructor
    · intro h
      cases h with
      | cons _ h =>
        obtain ⟨i, hi, h1, h2⟩ := cons_sub.1 h
        exact ⟨i + 1, by simpa using hi, by simpa using h1, by simpa using h2⟩
      | cons_cons _ h => exact ⟨0, by simp, rfl, by simpa using h⟩
    · rintro ⟨i, hi, h1, h2⟩
      cases i with
      | zero => simp at h1 h2; subst h1; exact h2.cons_cons _
      | succ i => exact (cons_sub.2 ⟨i, by simpa using hi, by simpa using h1, by simpa using h2⟩).cons _

theorem In_step {so rest p : List Int} (h : so.length < p.length) : In so rest p ↔ ∃ i, ∃ h : i < rest.length, In (so ++ [rest[i]]) (rest.drop (i + 1)) p := by
  constructor
  · rintro ⟨s, hs, hp⟩
    cases s with
    | nil =>
      have := congrArg List.length hp
      rw [shp_length] at this
      simp at this
      omega
    | cons x t =>
      obtain ⟨i, hi, h1, h2⟩ := cons_sub.1 hs
      exact ⟨i, hi, t, h2, by rw [h1, List.append_assoc]; exact hp⟩
  · rintro ⟨i, hi, t, ht, hp⟩
    exact ⟨rest[i] :: t, cons_sub.2 ⟨i, hi, rfl, ht⟩, by rw [List.append_assoc] at hp; exact hp⟩

/-- Insertion of a number behind the others. -/
def bump (k x : Int) : Int := if k ≤ x then x + 1 else x
def ins (o : List Int) (k : Int) : List Int := o.map (bump k) ++ [k]

theorem bump_lt (k x y : Int) : bump k x < bump k y ↔ x < y := by
  unfold bump
  split <;> split <;> omega

theorem In_ins {o p : List Int} (k : Int) (h : In [] o p) : In [] (ins o k) p := by
  obtain ⟨s, hs, hp⟩ := h
  refine ⟨s.map (bump k), (hs.map _).trans (List.sublist_append_left _ _), ?_⟩
  rw [List.nil_append] at hp ⊢
  rw [shp_map (bump_lt k), hp]

/-! ### Orders -/
structure Ord (p : List Int) : Prop where
  lo : 1 ≤ p.length
  hi : p.length ≤ 7
  rng : ∀ x ∈ p, 1 ≤ x ∧ x ≤ p.length
  nd : p.Nodup

theorem nodup_range : ∀ (n : Nat) (a : Int) (l : List Int), l.Nodup → (∀ x ∈ l, a ≤ x ∧ x < a + n) → l.length ≤ n := by
  intro n
  induction n with
  | zero =>
    intro a l _ h
    cases l with
    | nil => simp
    | cons x l => have := h x (by simp); omega
  | succ n ih =>
    intro a l hd h
    have h1 : (l.filter (fun x => decide (x ≠ a + n))).length ≤ n := ih a _ (hd.filter _) fun x hx => by
      simp only [List.mem_filter, decide_eq_true_eq] at hx
      have := h x hx.1
      omega
    have h2 : l.length = l.countP (fun x => decide (x ≠ a + n)) + l.countP (fun x => !decide (x ≠ a + n)) := by
      have := List.length_eq_countP_add_countP (l := l) (fun x => decide (x ≠ a + (n : Int)))
      rw [this]
      congr 1
      refine List.countP_congr fun x _ => ?_
      simp
    have h3 : l.countP (fun x => !decide (x ≠ a + n)) ≤ 1 := by
      have := List.nodup_iff_count.1 hd (a + n)
      have e : l.countP (fun x => !decide (x ≠ a + (n : Int))) = l.count (a + n) := by
        unfold List.count
        refine List.countP_congr fun x _ => ?_
        simp
      rw [e]; exact this
    rw [List.countP_eq_length_filter] at h2
    omega

theorem shp_ord {p : List Int} (h : Ord p) : shp p = p := by
  have : shp p = p.map id := by
    unfold shp
    refine List.map_congr_left fun x hx => ?_
    obtain ⟨h1, h2⟩ := h.rng x hx
    have e1 : p.countP (fun y => decide (y < x)) ≤ (x - 1).toNat := by
      rw [List.countP_eq_length_filter]
      refine nodup_range _ 1 _ (h.nd.filter _) fun y hy => ?_
      simp only [List.mem_filter, decide_eq_true_eq] at hy
      have := h.rng y hy.1
      omega
    have e2 : p.countP (fun y => decide (¬ (y < x))) ≤ (p.length - x + 1).toNat := by
      rw [List.countP_eq_length_filter]
      refine nodup_range _ x _ (h.nd.filter _) fun y hy => ?_
      simp only [List.mem_filter, decide_eq_true_eq] at hy
      have := h.rng y hy.1
      omega
    have e3 := List.length_eq_countP_add_countP (l := p) (fun y => decide (y < x))
    have e4 : p.countP (fun y => decide ¬ (decide (y < x) = true)) = p.countP (fun y => decide (¬ (y < x))) := by
      refine List.countP_congr fun y _ => ?_
      simp
    rw [e4] at e3
    show _ = x
    omega
  simpa using this

end Go.Pat
