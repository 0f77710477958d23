/- The law FnExactChanceAvoids: which patterns are orders; copies and sizes. -/
import Derived.Test.YtmcldnoofgkidaaCa1
set_option linter.unusedVariables false
set_option linter.unusedSimpArgs false
namespace Go.Proofs.Ytmcldnoofgkidaa
open Go Go.Tm Go.Pat

theorem firstP_dec {R S : Type} {P : Nat → Bool} {rI : Nat → R} {rE : R} {m : Nat} {Q : Prop} [Decidable Q] (f : R → S) {s1 s2 : S}
    (hI : ∀ j, j < m → P j = true → Q ∧ f (rI j) = s1) (hE : (∀ j, j < m → P j = false) → ¬ Q ∧ f rE = s2) : f (firstP P rI rE m m) = if Q then s1 else s2 := by
  rcases firstP_any (P := P) (rI := rI) (rE := rE) (m := m) with ⟨j, h1, h2, _, h4⟩ | ⟨h1, h2⟩
  · obtain ⟨q, e⟩ := hI j h1 h2
    rw [h4, if_pos q, e]
  · obtain ⟨q, e⟩ := hE h1
    rw [h2, if_neg q, e]

theorem bif_dec {α : Type} (p : Prop) [Decidable p] (a b : α) : (bif decide p then a else b) = if p then a else b := by
  by_cases h : p <;> simp [h]

theorem not_iLt (a b : Int) : (!(iLt a b)) = iLe b a := by
  rw [iLt_eq, iLe_eq, Bool.eq_iff_iff]
  simp only [Bool.not_eq_true', decide_eq_false_iff_not, decide_eq_true_eq]
  omega

section
variable {N : Nat}

theorem d188 {a b c : Int} : D188 N a b c = some (iLe b a && iLe a c) := by
  unfold D188 T188
  cases iLe b a <;> rfl

theorem d229 {l : List Int} {x : Int} (h : l.length < N) (hs : l.length < 4611686018427387904) : D229 N l x = some (decide (x ∈ l)) := by
  unfold D229 T229
  have := scan0 (Lp := Lp229_2 N) (st := fun j => (l, x, Int.ofNat j)) (len := l.length) (P := fun j => iEq (List.getD l j (Int.ofNat 0)) x) (rI := fun _ => .inl ()) (rE := .inr (l, x, Int.ofNat l.length, false))
    (fun n j hj => by
      show L229_2 N _ (Lp229_2 N n) some = _
      unfold L229_2
      simp only [n_lt, n_in, n_nat, n_inc (show j < 4611686018427387904 by omega), hj, decide_true, cond_true])
    (fun n => by
      show L229_2 N _ (Lp229_2 N n) some = _
      unfold L229_2
      simp only [n_lt, Nat.lt_irrefl, decide_false, cond_false]) h
  rw [this, Option.bind_some]
  rw [firstP_dec (Q := x ∈ l) (s1 := some true) (s2 := some false) (f := Sum.elim (fun _ => some true) (fun _ => some false))]
  · by_cases e : x ∈ l <;> simp [e]
  · intro j hj hP
    refine ⟨?_, rfl⟩
    rw [getD_at hj] at hP
    rw [← iEq_iff.1 hP]
    exact List.getElem_mem hj
  · intro hP
    refine ⟨fun hx => ?_, rfl⟩
    obtain ⟨j, hj, e⟩ := List.mem_iff_getElem.1 hx
    have := hP j hj
    rw [getD_at hj, e] at this
    rw [iEq_iff.2 rfl] at this; cases this

theorem d228 {l : List Int} {x : Int} (h : l.length < N) (hs : l.length < 4611686018427387904) : D228 N l x = some (decide (x ∈ l)) := by
  unfold D228 T228 D258 T258
  have := scan0 (Lp := Lp258_2 N) (st := fun j => (l, x, Int.ofNat l.length, Int.ofNat j)) (len := l.length) (P := fun j => iEq x (List.getD l j (Int.ofNat 0))) (rI := fun j => .inl (Int.ofNat j)) (rE := .inr (l, x, Int.ofNat l.length, Int.ofNat l.length, false))
    (fun n j hj => by
      show L258_2 N _ (Lp258_2 N n) some = _
      unfold L258_2
      simp only [n_lt, n_in, n_nat, n_inc (show j < 4611686018427387904 by omega), hj, decide_true, cond_true])
    (fun n => by
      show L258_2 N _ (Lp258_2 N n) some = _
      unfold L258_2
      simp only [n_lt, Nat.lt_irrefl, decide_false, cond_false]) h
  rw [this, Option.bind_some]
  rw [firstP_dec (Q := x ∈ l) (s1 := some true) (s2 := some false) (f := fun r => (Sum.elim (fun w3 => some w3) (fun _ => some (Int.negSucc 0)) r).bind fun r3 => some (iLe (Int.ofNat 0) r3))]
  · by_cases e : x ∈ l <;> simp [e]
  · intro j hj hP
    refine ⟨?_, ?_⟩
    · rw [getD_at hj] at hP
      rw [iEq_iff.1 hP]
      exact List.getElem_mem hj
    · simp only [Sum.elim_inl, Option.bind_some, n_le, Nat.zero_le, decide_true]
  · intro hP
    refine ⟨fun hx => ?_, rfl⟩
    obtain ⟨j, hj, e⟩ := List.mem_iff_getElem.1 hx
    have := hP j hj
    rw [getD_at hj, e] at this
    rw [iEq_iff.2 rfl] at this; cases this

/-! ### Orders -/
def gd (p : List Int) (j : Nat) : Bool :=
  (iLe (Int.ofNat 1) (List.getD p j (Int.ofNat 0)) && iLe (List.getD p j (Int.ofNat 0)) (Int.ofNat p.length)) && !(decide (List.getD p j (Int.ofNat 0) ∈ p.take j))

theorem ord_iff {p : List Int} : Ord p ↔ (1 ≤ p.length ∧ p.length ≤ 7) ∧ ∀ j, j < p.length → gd p j = true := by
  have key : ∀ j (hj : j < p.length), gd p j = true ↔ (1 ≤ p[j] ∧ p[j] ≤ p.length) ∧ ¬ p[j] ∈ p.take j := fun j hj => by
    unfold gd
    rw [getD_at hj]
    simp only [Bool.and_eq_true, iLe_iff, Bool.not_eq_true', decide_eq_false_iff_not, Int.ofNat_eq_natCast]
    rfl
  constructor
  · rintro ⟨h1, h2, h3, h4⟩
    refine ⟨⟨h1, h2⟩, fun j hj => (key j hj).2 ⟨h3 _ (List.getElem_mem hj), fun hm => ?_⟩⟩
    obtain ⟨i, hi, e⟩ := List.mem_take_iff_getElem.1 hm
    have hi' : i < j ∧ i < p.length := by omega
    exact List.pairwise_iff_getElem.1 h4 i j hi'.2 hj hi'.1 e
  · rintro ⟨⟨h1, h2⟩, h⟩
    refine ⟨h1, h2, fun x hx => ?_, ?_⟩
    · obtain ⟨j, hj, rfl⟩ := List.mem_iff_getElem.1 hx
      exact ((key j hj).1 (h j hj)).1
    · refine List.pairwise_iff_getElem.2 fun i j hi hj hij e => ?_
      exact ((key j hj).1 (h j hj)).2 (List.mem_take_iff_getElem.2 ⟨i, by omega, e⟩)

open Classical in
theorem ord_scan {p : List Int} {R : Type} (h : 1 ≤ p.length ∧ p.length ≤ 7) {rI rE : R} : firstP (fun j => !(gd p j)) (fun _ => rI) rE p.length p.length = if ¬ Ord p then rI else rE := by
  refine firstP_dec (fun r => r) (fun j hj hP => ⟨fun ho => ?_, rfl⟩) (fun hE => ⟨fun hn => hn ?_, rfl⟩)
  · rw [(ord_iff.1 ho).2 j hj] at hP; cases hP
  · exact ord_iff.2 ⟨h, fun j hj => by simpa using hE j hj⟩

open Classical in
theorem d145 {p : List Int} (hN : 100 ≤ N) : D145 N p = some (decide (Ord p)) := by
  unfold D145 T145
  rw [d188, Option.bind_some, n_le, n_le]
  by_cases h : 1 ≤ p.length ∧ p.length ≤ 7
  · simp only [h, decide_true, Bool.and_true, Bool.not_true, cond_false]
    have := scan0 (Lp := Lp145_4 N) (st := fun j => (p, Int.ofNat j)) (len := p.length) (P := fun j => !(gd p j)) (rI := fun _ => .inl ()) (rE := .inr (p, Int.ofNat p.length, false))
      (fun n j hj => by
        show L145_4 N _ (Lp145_4 N n) some = _
        unfold L145_4
        have e : D229 N (p.take j) (List.getD p j (Int.ofNat 0)) = _ := d229 (by simp; omega) (by simp; omega)
        simp only [n_lt, n_in, n_nat, n_inc (show j < 4611686018427387904 by omega), hj, decide_true, cond_true, d188, Option.bind_some, n_cut (Nat.zero_le j) (Nat.le_of_lt hj), Nat.sub_zero, List.drop_zero, e, gd]
        cases iLe (Int.ofNat 1) (List.getD p j (Int.ofNat 0)) <;> cases iLe (List.getD p j (Int.ofNat 0)) (Int.ofNat p.length) <;> cases decide (List.getD p j (Int.ofNat 0) ∈ p.take j) <;> rfl)
      (fun n => by
        show L145_4 N _ (Lp145_4 N n) some = _
        unfold L145_4
        simp only [n_lt, Nat.lt_irrefl, decide_false, cond_false]) (fuel := N) (by omega)
    rw [this, Option.bind_some, ord_scan h]
    by_cases e : Ord p <;> simp [e]
  · have hn : ¬ Ord p := fun ho => h ⟨ho.lo, ho.hi⟩
    have : (!(decide (1 ≤ p.length) && decide (p.length ≤ 7))) = true := by
      rw [Bool.not_eq_true', ← Bool.decide_and, decide_eq_false_iff_not]; exact h
    rw [this, cond_true, decide_eq_false hn]

open Classical in
theorem d142 {p : List Int} (hN : 100 ≤ N) : D142 N p = some (decide (Ord p)) := by
  unfold D142 T142
  rw [not_iLt, n_le]
  by_cases h1 : 1 ≤ p.length
  · by_cases h2 : p.length ≤ 7
    · have h : 1 ≤ p.length ∧ p.length ≤ 7 := ⟨h1, h2⟩
      simp only [h1, decide_true, cond_true, n_lt, show ¬ 7 < p.length by omega, decide_false, cond_false]
      have := scan0 (Lp := Lp142_4 N) (st := fun j => (p, p, Int.ofNat p.length, Int.ofNat j)) (len := p.length) (P := fun j => !(gd p j)) (rI := fun _ => .inl ()) (rE := .inr (p, p, Int.ofNat p.length, Int.ofNat p.length, false))
        (fun n j hj => by
          show L142_4 N _ (Lp142_4 N n) some = _
          unfold L142_4
          have e : D228 N (p.take j) (List.getD p j (Int.ofNat 0)) = _ := d228 (by simp; omega) (by simp; omega)
          simp only [not_iLt, n_lt, n_in, n_nat, n_inc (show j < 4611686018427387904 by omega), hj, decide_true, cond_true, Option.bind_some, n_cut (Nat.zero_le j) (Nat.le_of_lt hj), Nat.sub_zero, List.drop_zero, e, gd]
          cases iLe (Int.ofNat 1) (List.getD p j (Int.ofNat 0)) <;> cases iLe (List.getD p j (Int.ofNat 0)) (Int.ofNat p.length) <;> cases decide (List.getD p j (Int.ofNat 0) ∈ p.take j) <;> rfl)
        (fun n => by
          show L142_4 N _ (Lp142_4 N n) some = _
          unfold L142_4
          simp only [n_lt, Nat.lt_irrefl, decide_false, cond_false]) (fuel := N) (by omega)
      rw [this, Option.bind_some, ord_scan h]
      by_cases e : Ord p <;> simp [e]
    · have hn : ¬ Ord p := fun ho => h2 ho.hi
      simp only [h1, decide_true, cond_true, n_lt, show 7 < p.length by omega, decide_eq_false hn]
  · have hn : ¬ Ord p := fun ho => h1 ho.lo
    simp only [h1, decide_false, cond_false, decide_eq_false hn]

/-! ### Patterns -/
def Pats (ps : List (List Int)) : Prop := ps.length ≤ 4 ∧ ∀ p ∈ ps, Ord p

theorem pats_at {ps : List (List Int)} : (∀ p ∈ ps, Ord p) ↔ ∀ j, j < ps.length → Ord (List.getD ps j []) := by
  constructor
  · intro h j hj
    rw [getD_at hj]; exact h _ (List.getElem_mem hj)
  · intro h p hp
    obtain ⟨j, hj, rfl⟩ := List.mem_iff_getElem.1 hp
    have := h j hj
    rwa [getD_at hj] at this

open Classical in
theorem d133 {ps : List (List Int)} (hN : 100 ≤ N) (h : ps.length < N) (hs : ps.length < 4611686018427387904) : D133 N ps = some (decide (Pats ps)) := by
  unfold D133 T133
  have := scan0 (Lp := Lp133_2 N) (st := fun j => (ps, Int.ofNat j)) (len := ps.length) (P := fun j => !(decide (j ≤ 4)) || !(decide (Ord (List.getD ps j []))))
    (rI := fun j => bif decide (j ≤ 4) then .inl () else .inr (.inl (ps, Int.ofNat j, Int.ofNat j, false, false))) (rE := .inr (.inr (ps, Int.ofNat ps.length)))
    (fun n j hj => by
      show L133_2 N _ (Lp133_2 N n) some = _
      unfold L133_2
      simp only [n_lt, n_le, n_in, n_nat, n_inc (show j < 4611686018427387904 by omega), hj, decide_true, cond_true, d145 hN, Option.bind_some]
      cases decide (j ≤ 4) <;> cases decide (Ord (List.getD ps j [])) <;> rfl)
    (fun n => by
      show L133_2 N _ (Lp133_2 N n) some = _
      unfold L133_2
      simp only [n_lt, Nat.lt_irrefl, decide_false, cond_false]) h
  rw [this, Option.bind_some]
  by_cases hl : ps.length ≤ 4
  · rw [firstP_dec (Q := ¬ Pats ps) (s1 := some false) (s2 := some true) (f := Sum.elim (fun _ => some false) (Sum.elim (fun (w4 : List (List Int) × Int × Int × Bool × Bool) => some (iLe (Int.ofNat (List.length w4.1)) (Int.ofNat 4))) (fun (w5 : List (List Int) × Int) => some (iLe (Int.ofNat (List.length w5.1)) (Int.ofNat 4)))))]
    · by_cases e : Pats ps <;> simp [e]
    · intro j hj hP
      have h4 : j ≤ 4 := by omega
      simp only [h4, decide_true, Bool.not_true, Bool.false_or, Bool.not_eq_true', decide_eq_false_iff_not] at hP
      refine ⟨fun hp => hP (pats_at.1 hp.2 j hj), ?_⟩
      simp only [h4, decide_true, cond_true, Sum.elim_inl]
    · intro hE
      refine ⟨fun hn => hn ⟨hl, pats_at.2 fun j hj => ?_⟩, ?_⟩
      · have := hE j hj
        simp only [Bool.or_eq_false_iff, Bool.not_eq_false', decide_eq_true_eq] at this
        exact this.2
      · simp only [Sum.elim_inr, n_le, hl, decide_true]
  · have hn : ¬ Pats ps := fun hp => hl hp.1
    rw [decide_eq_false hn]
    rcases firstP_any (P := fun j => !(decide (j ≤ 4)) || !(decide (Ord (List.getD ps j [])))) (rI := fun j => bif decide (j ≤ 4) then (.inl () : Unit ⊕ (List (List Int) × Int × Int × Bool × Bool) ⊕ (List (List Int) × Int)) else .inr (.inl (ps, Int.ofNat j, Int.ofNat j, false, false)))
      (rE := .inr (.inr (ps, Int.ofNat ps.length))) (m := ps.length) with ⟨j, h1, h2, _, e⟩ | ⟨h1, e⟩
    · rw [e]
      by_cases h4 : j ≤ 4
      · simp only [h4, decide_true, cond_true, Sum.elim_inl]
      · simp only [h4, decide_false, cond_false, Sum.elim_inl, Sum.elim_inr, n_le, hl]
    · rw [e]
      simp only [Sum.elim_inr, n_le, hl, decide_false]

open Classical in
theorem d137 {ps : List (List Int)} (hN : 100 ≤ N) : D137 N ps = some (decide (Pats ps)) := by
  unfold D137 T137
  rw [n_le]
  by_cases h4 : ps.length ≤ 4
  · simp only [h4, decide_true, cond_true]
    unfold D224 T224 D256 T256
    have := scan0 (Lp := Lp256_2 N) (st := fun j => (ps, Int.ofNat ps.length, Int.ofNat j)) (len := ps.length) (P := fun j => !(decide (Ord (List.getD ps j []))))
      (rI := fun j => .inl (Int.ofNat j)) (rE := .inr (ps, Int.ofNat ps.length, Int.ofNat ps.length, false))
      (fun n j hj => by
        show L256_2 N _ (Lp256_2 N n) some = _
        unfold L256_2
        have e : D225 N (List.getD ps j []) = some (!(decide (Ord (List.getD ps j [])))) := by
          unfold D225 T225
          rw [d142 hN]; rfl
        simp only [n_lt, n_le, n_in, n_nat, n_inc (show j < 4611686018427387904 by omega), hj, decide_true, cond_true, e, Option.bind_some])
      (fun n => by
        show L256_2 N _ (Lp256_2 N n) some = _
        unfold L256_2
        simp only [n_lt, Nat.lt_irrefl, decide_false, cond_false]) (fuel := N) (by omega)
    rw [this, Option.bind_some]
    rw [firstP_dec (Q := ¬ Pats ps) (s1 := some false) (s2 := some true) (f := fun r => ((Sum.elim (fun w3 => some w3) (fun _ => some (Int.negSucc 0)) r).bind fun r2 => some (iLe (Int.ofNat 0) r2)).bind fun r2 => some (!r2))]
    · by_cases e : Pats ps <;> simp [e]
    · intro j hj hP
      simp only [Bool.not_eq_true', decide_eq_false_iff_not] at hP
      refine ⟨fun hp => hP (pats_at.1 hp.2 j hj), ?_⟩
      simp only [Sum.elim_inl, Option.bind_some, n_le, Nat.zero_le, decide_true, Bool.not_true]
    · intro hE
      exact ⟨fun hn => hn ⟨h4, pats_at.2 fun j hj => by simpa using hE j hj⟩, rfl⟩
  · have hn : ¬ Pats ps := fun hp => h4 hp.1
    simp only [h4, decide_false, cond_false, decide_eq_false hn]
end
end Go.Proofs.Ytmcldnoofgkidaa
