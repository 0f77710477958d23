/- The law FnExactChanceAvoids: copies and sizes. -/
import Derived.Test.YtmcldnoofgkidaaCa2
set_option linter.unusedVariables false
set_option linter.unusedSimpArgs false
namespace Go.Proofs.Ytmcldnoofgkidaa
open Go Go.Tm Go.Pat

/-- What a copying loop keeps. -/
def Cp {α : Type} (p : List α) (j : Nat) (a : List α) : Prop := a.length = p.length ∧ ∀ i, i < j → a[i]? = p[i]?

theorem cp_step {α : Type} {p a : List α} {j : Nat} {x : α} (hj : j < p.length) (h : Cp p j a) (e : x = p[j]) : Cp p (j + 1) (a.set j x) := by
  refine ⟨by rw [List.length_set, h.1], fun i hi => ?_⟩
  rw [List.getElem?_set]
  by_cases e' : j = i
  · subst e'
    rw [if_pos rfl, if_pos (by rw [h.1]; exact hj), e, List.getElem?_eq_getElem hj]
  · rw [if_neg e']
    exact h.2 i (by omega)

theorem cp_end {α : Type} {p a : List α} (h : Cp p p.length a) : a = p := by
  apply List.ext_getElem?
  intro i
  by_cases hi : i < p.length
  · exact h.2 i hi
  · rw [List.getElem?_eq_none (by rw [h.1]; omega), List.getElem?_eq_none (by omega)]

section
variable {N : Nat}

theorem d135 {p : List Int} (h : p.length < N) (hs : p.length ≤ 4398046511104) : D135 N p = some p := by
  unfold D135 T135
  have hc : (iLe (Int.ofNat 0) (Int.ofNat p.length) && iEq (Int.ofNat p.length) (Int.ofNat p.length) && capB (Int.toNat (Int.ofNat p.length))) = true := by
    rw [n_le, n_eq, n_nat, n_cap hs]; simp
  rw [hc, cond_true]
  obtain ⟨b, h1, h2⟩ := gather0 (Lp := Lp135_3 N) (st := fun j (a : List Int) => (p, a, Int.ofNat j)) (len := p.length) (f := fun j a => a.set j (List.getD p j (Int.ofNat 0)))
    (rE := fun a => (p, a, Int.ofNat p.length, false)) (Cp p)
    (fun n j a hj ha => by
      show L135_3 N _ (Lp135_3 N n) some = _
      unfold L135_3
      simp only [n_lt, n_in, n_nat, n_inc (show j < 4611686018427387904 by omega), hj, ha.1, decide_true, cond_true])
    (fun j a hj ha => cp_step hj ha (getD_at hj))
    (fun n a ha => by
      show L135_3 N _ (Lp135_3 N n) some = _
      unfold L135_3
      simp only [n_lt, Nat.lt_irrefl, decide_false, cond_false]) (fuel := N) (a := List.replicate p.length (Int.ofNat 0)) h ⟨by simp, fun i hi => by omega⟩
  rw [n_nat, h1, Option.bind_some, cp_end h2]

theorem d33 {ps : List (List Int)} (h : ps.length < N) (hs : ps.length ≤ 4398046511104) (hp : ∀ p ∈ ps, p.length < N ∧ p.length ≤ 4398046511104) : D33 N ps = some ps := by
  unfold D33 T33
  have hc : (iLe (Int.ofNat 0) (Int.ofNat ps.length) && iEq (Int.ofNat ps.length) (Int.ofNat ps.length) && capB (Int.toNat (Int.ofNat ps.length))) = true := by
    rw [n_le, n_eq, n_nat, n_cap hs]; simp
  rw [hc, cond_true]
  obtain ⟨b, h1, h2⟩ := gather0 (Lp := Lp33_3 N) (st := fun j (a : List (List Int)) => (ps, a, Int.ofNat j)) (len := ps.length) (f := fun j a => a.set j (List.getD ps j []))
    (rE := fun a => (ps, a, Int.ofNat ps.length, false)) (Cp ps)
    (fun n j a hj ha => by
      show L33_3 N _ (Lp33_3 N n) some = _
      unfold L33_3
      have e : D135 N (List.getD ps j []) = some (List.getD ps j []) := by
        rw [getD_at hj]
        have := hp _ (List.getElem_mem hj)
        exact d135 this.1 this.2
      simp only [n_lt, n_in, n_nat, n_inc (show j < 4611686018427387904 by omega), hj, ha.1, decide_true, cond_true, e, Option.bind_some])
    (fun j a hj ha => cp_step hj ha (getD_at hj))
    (fun n a ha => by
      show L33_3 N _ (Lp33_3 N n) some = _
      unfold L33_3
      simp only [n_lt, Nat.lt_irrefl, decide_false, cond_false]) (fuel := N) (a := List.replicate ps.length []) h ⟨by simp, fun i hi => by omega⟩
  rw [n_nat, h1, Option.bind_some, cp_end h2]

theorem d35 {ps : List (List Int)} (h : ps.length < N) (hs : ps.length ≤ 4398046511104) (hp : ∀ p ∈ ps, p.length < N ∧ p.length ≤ 4398046511104) : D35 N ps ps = some true := by
  unfold D35 T35
  rw [n_eq]
  simp only [decide_true, Bool.not_true, cond_false]
  have := scan0 (Lp := Lp35_4 N) (st := fun j => (ps, ps, Int.ofNat j)) (len := ps.length) (P := fun j => false) (rI := fun _ => .inl ()) (rE := .inr (ps, ps, Int.ofNat ps.length, false))
    (fun n j hj => by
      show L35_4 N _ (Lp35_4 N n) some = _
      unfold L35_4
      have e : D140 N (List.getD ps j []) (List.getD ps j []) = some true := by
        rw [getD_at hj]
        have := hp _ (List.getElem_mem hj)
        rw [same140 this.1 (by omega), decide_eq_true rfl]
      simp only [n_lt, n_in, n_nat, n_inc (show j < 4611686018427387904 by omega), hj, decide_true, cond_true, e, Option.bind_some, Bool.not_true, cond_false])
    (fun n => by
      show L35_4 N _ (Lp35_4 N n) some = _
      unfold L35_4
      simp only [n_lt, Nat.lt_irrefl, decide_false, cond_false]) h
  rw [this]
  have e : ∀ k, firstP (fun _ => false) (fun _ => (.inl () : Unit ⊕ (List (List Int) × List (List Int) × Int × Bool))) (.inr (ps, ps, Int.ofNat ps.length, false)) ps.length k = .inr (ps, ps, Int.ofNat ps.length, false) := by
    intro k
    induction k with
    | zero => rfl
    | succ k ih => simp only [firstP, cond_false, ih]
  rw [e]
  rfl

/-! ### Sizes -/
theorem n_sub {a : Int} {n : Nat} (h1 : 0 ≤ a) (h2 : a ≤ 1000000000000000000) (h3 : n ≤ 9223372036854775807) : wrapF .i64 (a - Int.ofNat n) = a - n := by
  rw [w_id] <;> simp only [Int.ofNat_eq_natCast] <;> omega

theorem d132 {p : List Int} {a : Int} (h1 : 0 ≤ a) (h2 : a ≤ 1048576) (h3 : p.length ≤ 9223372036854775807) : D132 N p a = some (if a - p.length < 0 then -1 else a - p.length) := by
  unfold D132 T132
  rw [n_sub (by omega) (by omega) h3, iLt_eq, bif_dec]
  simp only [Int.ofNat_eq_natCast]
  by_cases h : a - (p.length : Int) < ((0 : Nat) : Int)
  · rw [if_pos h, if_pos (by omega)]; rfl
  · rw [if_neg h, if_neg (by omega)]

theorem sz_loop {ps : List (List Int)} (hp : ∀ p ∈ ps, p.length ≤ 9223372036854775807) (hN : 2097152 ≤ N) (hl : ps.length ≤ 1048576) :
    ∀ (k j fuel : Nat) (a : Int), j + k = ps.length → k < fuel → 0 ≤ a → a ≤ 1048576 → ∃ r, Lp31_5 N fuel (ps, a, Int.ofNat j) = some r ∧
      (r = .inl () ∨ ∃ b, 0 ≤ b ∧ r = .inr (ps, b, Int.ofNat ps.length, false) ∧ ∀ i, j ≤ i → ∀ (h : i < ps.length), ps[i].length ≤ 1048576) := by
  intro k
  induction k with
  | zero =>
    intro j fuel a hj hf h1 h2
    obtain ⟨f, rfl⟩ : ∃ f, fuel = f + 1 := ⟨fuel - 1, by omega⟩
    have hj' : j = ps.length := by omega
    subst hj'
    refine ⟨_, ?_, .inr ⟨a, h1, rfl, fun i h3 h4 => by omega⟩⟩
    show L31_5 N _ (Lp31_5 N f) some = _
    unfold L31_5
    simp only [n_lt, Nat.lt_irrefl, decide_false, cond_false]
  | succ k ih =>
    intro j fuel a hj hf h1 h2
    obtain ⟨f, rfl⟩ : ∃ f, fuel = f + 1 := ⟨fuel - 1, by omega⟩
    have hlt : j < ps.length := by omega
    have hpj := hp _ (List.getElem_mem hlt)
    have e0 : Lp31_5 N (f + 1) (ps, a, Int.ofNat j) = if a - (ps[j].length : Int) < 0 then some (.inl ()) else Lp31_5 N f (ps, a - ps[j].length, Int.ofNat (j + 1)) := by
      show L31_5 N _ (Lp31_5 N f) some = _
      unfold L31_5
      simp only [n_lt, n_in, n_nat, n_inc (show j < 4611686018427387904 by omega), hlt, decide_true, cond_true, getD_at hlt, d132 h1 h2 hpj, Option.bind_some]
      simp only [iLt_eq, bif_dec]
      by_cases h : a - (ps[j].length : Int) < 0
      · simp only [h, if_true]; rfl
      · simp only [h, if_false, Int.ofNat_eq_natCast]
        rw [if_neg (by omega)]
    by_cases h : a - (ps[j].length : Int) < 0
    · exact ⟨_, by rw [e0, if_pos h], .inl rfl⟩
    · obtain ⟨r, hr, hcase⟩ := ih (j + 1) f (a - ps[j].length) (by omega) (by omega) (by omega) (by omega)
      refine ⟨r, by rw [e0, if_neg h]; exact hr, ?_⟩
      rcases hcase with hc | ⟨b, hb, hc, hall⟩
      · exact .inl hc
      · refine .inr ⟨b, hb, hc, fun i h3 h4 => ?_⟩
        by_cases e : i = j
        · subst e; omega
        · exact hall i (by omega) h4

theorem d31 {ps : List (List Int)} (hp : ∀ p ∈ ps, p.length ≤ 9223372036854775807) (hl : ps.length ≤ 9223372036854775807) (hN : 2097152 ≤ N) :
    ∃ r, D31 N ps (Int.ofNat 1048576) = some r ∧ (iLt r (Int.ofNat 0) = true ∨ iLt r (Int.ofNat 0) = false ∧ ps.length ≤ 1048576 ∧ ∀ p ∈ ps, p.length ≤ 1048576) := by
  unfold D31 T31
  have e : wrapF .i64 (Int.ofNat 1048576 - Int.ofNat ps.length) = 1048576 - ps.length := n_sub (by simp) (by simp) hl
  simp only [e, iLt_eq, bif_dec]
  by_cases h : (1048576 : Int) - ps.length < Int.ofNat 0
  · exact ⟨_, by rw [if_pos h], .inl (by decide)⟩
  · simp only [Int.ofNat_eq_natCast] at h
    obtain ⟨r, hr, hcase⟩ := sz_loop (N := N) hp hN (by omega) ps.length 0 N (1048576 - ps.length) (by omega) (by omega) (by omega) (by omega)
    rw [if_neg (by simp only [Int.ofNat_eq_natCast]; omega), hr, Option.bind_some]
    rcases hcase with hc | ⟨b, hb, hc, hall⟩
    · exact ⟨_, by rw [hc]; rfl, .inl (by decide)⟩
    · refine ⟨b, by rw [hc]; rfl, .inr ⟨?_, by omega, fun p hp' => ?_⟩⟩
      · rw [decide_eq_false_iff_not]; simp only [Int.ofNat_eq_natCast]; omega
      · obtain ⟨i, hi, rfl⟩ := List.mem_iff_getElem.1 hp'
        exact hall i (by omega) hi
end
end Go.Proofs.Ytmcldnoofgkidaa
