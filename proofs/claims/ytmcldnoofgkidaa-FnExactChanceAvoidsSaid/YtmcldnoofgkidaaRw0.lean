/- A row of rows of the caller's, as the opening tells it: rows that are only read. -/
import Derived.Test.YtmcldnoofgkidaaTm33
import Derived.Deep.Matrix
set_option linter.unusedVariables false
namespace Go.Tm
open Go

theorem law_slI {k : IntKind} {w : World} {a : Option Addr} {len cap : Nat} {zs : List Int} (h1 : len ≤ cap) (h2 : cap ≤ maxLen) (h3 : zs.length = cap) (h5 : ∀ n ∈ zs, (Lit.int k n).wf = true) (h0 : a = none → cap = 0)
    (h4 : ∀ x, a = some x → ∀ c, c < cap → w.cell? (x.add c) = some (.int k (zs.getD c 0))) : SlI (lawO w) w (.slice a len cap) (vints k (zs.take len)) := by
  cases a with
  | none =>
    have hc := h0 rfl
    refine law_ints (.inl ⟨rfl, by omega, hc, ?_⟩)
    exact List.eq_nil_of_length_eq_zero (by omega)
  | some x => exact law_ints (.inr ⟨x, rfl, h1, h2, h3, fun i hi => h4 x rfl i (by omega), h5⟩)

theorem law_rows {w : World} {a : Addr} {len cap : Nat} {A : Nat → Option Addr} {L C : Nat → Nat} {Z : Nat → List Int} (hl : len ≤ cap) (hm : cap ≤ maxLen)
    (h : ∀ r, r < cap → w.cell? (a.add r) = some (.slice (A r) (L r) (C r)) ∧ L r ≤ C r ∧ C r ≤ maxLen ∧ (Z r).length = C r ∧ (∀ n ∈ Z r, (Lit.int .i64 n).wf = true) ∧ (A r = none → C r = 0) ∧ ∀ a', A r = some a' → ∀ c, c < C r → w.cell? (a'.add c) = some (.int .i64 ((Z r).getD c 0))) :
    VP (lawO w) w (.slice (some a) len cap) (.rows ((List.range len).map fun r => (Z r).take (L r))) := by
  refine ⟨(List.range len).map fun r => .slice (A r) (L r) (C r), ⟨some a, cap, by simp, by simpa using hl, by simp; omega, fun hne => ⟨a, rfl, ?_, ?_⟩⟩, by simp, ?_⟩
  · have h0 : 0 < len := by
      rcases Nat.eq_zero_or_pos len with e | e
      · subst e; simp at hne
      · exact e
    have := cell_lt (h 0 (by omega)).1
    have hb : (a.add 0).block = a.block := by unfold Addr.add; split <;> rfl
    rw [hb] at this
    unfold lawO; rw [if_pos this]
  · intro j u hu
    have hj : j < len := by
      have := (List.getElem?_eq_some_iff.1 hu).1
      simpa using this
    rw [(h j (by omega)).1]
    rw [List.getElem?_map, List.getElem?_range hj] at hu
    exact hu
  · intro j hv xs h1 h2
    have hj : j < len := by
      have := (List.getElem?_eq_some_iff.1 h1).1
      simpa using this
    rw [List.getElem?_map, List.getElem?_range hj] at h1 h2
    simp only [Option.map_some, Option.some.injEq] at h1 h2
    subst h1
    subst h2
    obtain ⟨_, e1, e2, e3, e6, e4, e5⟩ := h j (by omega)
    exact law_slI e1 e2 e3 e6 e4 e5

theorem law_rows0 {w : World} : VP (lawO w) w (.slice none 0 0) (.rows []) :=
  ⟨[], ⟨none, 0, rfl, Nat.le_refl _, Nat.zero_le _, fun h => absurd rfl h⟩, rfl, fun j h xs h1 => by simp at h1⟩

/-- Rows of the caller's. -/
def IsRows (w : World) (a : Option Addr) (len cap : Nat) (xss : List (List Int)) : Prop :=
  VP (lawO w) w (.slice a len cap) (.rows xss) ∧ xss.length ≤ 9223372036854775807 ∧ ∀ p ∈ xss, p.length ≤ 9223372036854775807

theorem maxLen_le {n : Nat} (h : n ≤ maxLen) : n ≤ 9223372036854775807 := h

theorem isRows_of {w : World} {a : Addr} {len cap : Nat} {A : Nat → Option Addr} {L C : Nat → Nat} {Z : Nat → List Int} (hl : len ≤ cap) (hm : cap ≤ maxLen)
    (h : ∀ r, r < cap → w.cell? (a.add r) = some (.slice (A r) (L r) (C r)) ∧ L r ≤ C r ∧ C r ≤ maxLen ∧ (Z r).length = C r ∧ (∀ n ∈ Z r, (Lit.int .i64 n).wf = true) ∧ (A r = none → C r = 0) ∧ ∀ a', A r = some a' → ∀ c, c < C r → w.cell? (a'.add c) = some (.int .i64 ((Z r).getD c 0))) :
    IsRows w (some a) len cap ((List.range len).map fun r => (Z r).take (L r)) := by
  refine ⟨law_rows hl hm h, ?_, fun p hp => ?_⟩
  · have := maxLen_le hm; simp; omega
  · simp only [List.mem_map, List.mem_range] at hp
    obtain ⟨r, hr, rfl⟩ := hp
    obtain ⟨_, h1, h2, _⟩ := h r (by omega)
    have := maxLen_le h2
    simp; omega
end Go.Tm
