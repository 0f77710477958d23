/- The law FnExactChanceAvoids: what its simple loops compute. -/
import Derived.Test.YtmcldnoofgkidaaC1
import Derived.Test.YtmcldnoofgkidaaPat
set_option linter.unusedVariables false
set_option linter.unusedSimpArgs false
namespace Go.Proofs.Ytmcldnoofgkidaa
open Go Go.Tm Go.Pat

section
variable {N : Nat}

theorem neq_at {a b : List Int} (hl : a.length = b.length) (h : a ≠ b) : ∃ j, j < a.length ∧ iEq (List.getD a j (Int.ofNat 0)) (List.getD b j (Int.ofNat 0)) = false := by
  apply Classical.byContradiction
  intro hn
  apply h
  apply List.ext_getElem hl
  intro j h1 h2
  apply Classical.byContradiction
  intro hne
  apply hn
  refine ⟨j, h1, ?_⟩
  rw [getD_at h1, getD_at h2, Bool.eq_false_iff]
  intro e
  exact hne (iEq_iff.1 e)

theorem same_res {a b : List Int} (hl : a.length = b.length) {R : Type} (rI rE : R) :
    firstP (fun j => !(iEq (List.getD a j (Int.ofNat 0)) (List.getD b j (Int.ofNat 0)))) (fun _ => rI) rE a.length a.length = if a = b then rE else rI := by
  rcases firstP_any (P := fun j => !(iEq (List.getD a j (Int.ofNat 0)) (List.getD b j (Int.ofNat 0)))) (rI := fun _ => rI) (rE := rE) (m := a.length) with ⟨j, h1, h2, _, h4⟩ | ⟨h1, h2⟩
  · rw [h4, if_neg]
    intro e
    subst e
    simp only [Bool.not_eq_true'] at h2
    have : iEq (List.getD a j (Int.ofNat 0)) (List.getD a j (Int.ofNat 0)) = true := iEq_iff.2 rfl
    rw [this] at h2; cases h2
  · rw [h2, if_pos]
    apply Classical.byContradiction
    intro hne
    obtain ⟨j, hj, he⟩ := neq_at hl hne
    have := h1 j hj
    simp only [he] at this
    cases this

theorem same151 {a b : List Int} (h : a.length < N) (hs : a.length < 4611686018427387904) : D151 N a b = some (decide (a = b)) := by
  unfold D151 T151
  rw [n_eq]
  by_cases hl : a.length = b.length
  · simp only [hl, decide_true, Bool.not_true, cond_false]
    have := scan0 (Lp := Lp151_4 N) (st := fun j => (a, b, Int.ofNat j)) (len := a.length) (P := fun j => !(iEq (List.getD a j (Int.ofNat 0)) (List.getD b j (Int.ofNat 0)))) (rI := fun _ => .inl ()) (rE := .inr (a, b, Int.ofNat a.length, false))
      (fun n j hj => by
        show L151_4 N _ (Lp151_4 N n) some = _
        unfold L151_4
        simp only [n_lt, n_in, n_nat, n_inc (show j < 4611686018427387904 by omega), hj, show j < b.length by omega, decide_true, cond_true])
      (fun n => by
        show L151_4 N _ (Lp151_4 N n) some = _
        unfold L151_4
        simp only [n_lt, Nat.lt_irrefl, decide_false, cond_false]) h
    rw [this, same_res hl]
    by_cases e : a = b
    · rw [if_pos e]; simp [e]
    · rw [if_neg e]; simp [e]
  · have hne : a ≠ b := fun e => hl (by rw [e])
    simp [hl, hne]

theorem same275 {a b : List Int} (h : a.length < N) (hs : a.length < 4611686018427387904) : D275 N a b = some (decide (a = b)) := by
  unfold D275 T275
  rw [n_eq]
  by_cases hl : a.length = b.length
  · simp only [hl, decide_true, Bool.not_true, cond_false]
    have := scan0 (Lp := Lp275_4 N) (st := fun j => (a, b, Int.ofNat a.length, Int.ofNat j)) (len := a.length) (P := fun j => !(iEq (List.getD a j (Int.ofNat 0)) (List.getD b j (Int.ofNat 0)))) (rI := fun _ => .inl ()) (rE := .inr (a, b, Int.ofNat a.length, Int.ofNat a.length, false))
      (fun n j hj => by
        show L275_4 N _ (Lp275_4 N n) some = _
        unfold L275_4
        simp only [n_lt, n_in, n_nat, n_inc (show j < 4611686018427387904 by omega), hj, show j < b.length by omega, decide_true, cond_true])
      (fun n => by
        show L275_4 N _ (Lp275_4 N n) some = _
        unfold L275_4
        simp only [n_lt, Nat.lt_irrefl, decide_false, cond_false]) h
    rw [← hl, this, same_res hl]
    by_cases e : a = b
    · rw [if_pos e]; simp [e]
    · rw [if_neg e]; simp [e]
  · have hne : a ≠ b := fun e => hl (by rw [e])
    simp [hl, hne]

theorem same140 {a b : List Int} (h : a.length < N) (hs : a.length < 4611686018427387904) : D140 N a b = some (decide (a = b)) := by
  unfold D140 T140
  rw [n_eq]
  by_cases hl : a.length = b.length
  · simp only [hl, decide_true, Bool.not_true, cond_false]
    have := scan0 (Lp := Lp140_4 N) (st := fun j => (a, b, Int.ofNat j)) (len := a.length) (P := fun j => !(iEq (List.getD a j (Int.ofNat 0)) (List.getD b j (Int.ofNat 0)))) (rI := fun _ => .inl ()) (rE := .inr (a, b, Int.ofNat a.length, false))
      (fun n j hj => by
        show L140_4 N _ (Lp140_4 N n) some = _
        unfold L140_4
        simp only [n_lt, n_in, n_nat, n_inc (show j < 4611686018427387904 by omega), hj, show j < b.length by omega, decide_true, cond_true])
      (fun n => by
        show L140_4 N _ (Lp140_4 N n) some = _
        unfold L140_4
        simp only [n_lt, Nat.lt_irrefl, decide_false, cond_false]) h
    rw [this, same_res hl]
    by_cases e : a = b
    · rw [if_pos e]; simp [e]
    · rw [if_neg e]; simp [e]
  · have hne : a ≠ b := fun e => hl (by rw [e])
    simp [hl, hne]

/-! ### Shapes -/
theorem count_step (l : List Int) (x : Int) {j : Nat} (hj : j < l.length) : (l.take (j + 1)).countP (fun y => decide (y < x)) = (l.take j).countP (fun y => decide (y < x)) + (bif iLt l[j] x then 1 else 0) := by
  rw [List.take_add_one, List.getElem?_eq_getElem hj, List.countP_append, iLt_eq]
  simp only [Option.toList, List.countP_cons, List.countP_nil, Nat.zero_add]
  cases decide (l[j] < x) <;> rfl

theorem take_shp {l : List Int} {i : Nat} (hi : i < l.length) : (shp l).take i ++ [1 + (l.countP (fun y => decide (y < l[i])) : Int)] = (shp l).take (i + 1) := by
  rw [List.take_add_one, List.getElem?_eq_getElem (by rw [shp_length]; exact hi)]
  simp [shp]

theorem shape281 {l : List Int} (h : l.length < N) (hs : l.length ≤ 100000) : D281 N l = some (shp l) := by
  have inner : ∀ (out : List Int) (i : Nat) (hi : i < l.length), Lp281_7 N N (l, out, Int.ofNat i, Int.ofNat 1, Int.ofNat 0) = some (l, out, Int.ofNat i, Int.ofNat (1 + l.countP (fun y => decide (y < l[i]))), Int.ofNat l.length, false) := by
    intro out i hi
    obtain ⟨b, h1, h2⟩ := gather0 (Lp := Lp281_7 N) (st := fun j (c : Nat) => (l, out, Int.ofNat i, Int.ofNat c, Int.ofNat j)) (len := l.length) (f := fun j c => bif iLt (List.getD l j (Int.ofNat 0)) l[i] then c + 1 else c)
      (rE := fun c => (l, out, Int.ofNat i, Int.ofNat c, Int.ofNat l.length, false)) (fun j c => c = 1 + (l.take j).countP (fun y => decide (y < l[i])))
      (fun n j c hj hc => by
        have hb : c < 4611686018427387904 := by
          have : (l.take j).countP (fun y => decide (y < l[i])) ≤ (l.take j).length := List.countP_le_length
          simp at this; omega
        show L281_7 N _ (Lp281_7 N n) some = _
        unfold L281_7
        simp only [n_lt, n_in, n_nat, n_inc (show j < 4611686018427387904 by omega), n_inc hb, hj, hi, getD_at hi, decide_true, cond_true]
        cases iLt (List.getD l j (Int.ofNat 0)) l[i] <;> rfl)
      (fun j c hj hc => by
        rw [hc, count_step l _ hj, getD_at hj]
        cases iLt l[j] l[i] <;> simp <;> omega)
      (fun n c hc => by
        show L281_7 N _ (Lp281_7 N n) some = _
        unfold L281_7
        simp only [n_lt, Nat.lt_irrefl, decide_false, cond_false]) (fuel := N) (a := 1) h (by simp)
    rw [h1, h2, List.take_length]
  unfold D281 T281
  obtain ⟨b, h1, h2⟩ := gather0 (Lp := Lp281_3 N) (st := fun j (o : List Int) => (l, o, Int.ofNat j)) (len := l.length) (f := fun j o => o ++ [1 + (l.countP (fun y => decide (y < List.getD l j (Int.ofNat 0))) : Int)])
      (rE := fun o => (l, o, Int.ofNat l.length, false)) (fun j o => o = (shp l).take j)
      (fun n j o hj ho => by
        show L281_3 N _ (Lp281_3 N n) some = _
        unfold L281_3
        have hc : capB (o ++ [Int.ofNat (1 + l.countP (fun y => decide (y < l[j])))]).length = true := n_cap (by rw [ho]; simp [shp_length]; omega)
        simp only [n_lt, hj, decide_true, cond_true, inner o j hj, Option.bind_some, hc, n_inc (show j < 4611686018427387904 by omega)]
        congr 2
        simp only [getD_at hj, Prod.mk.injEq, true_and, and_true, List.append_cancel_left_eq, List.cons.injEq, Int.ofNat_eq_natCast]
        omega)
      (fun j o hj ho => by rw [ho, getD_at hj]; exact take_shp hj)
      (fun n o ho => by
        show L281_3 N _ (Lp281_3 N n) some = _
        unfold L281_3
        simp only [n_lt, Nat.lt_irrefl, decide_false, cond_false]) (fuel := N) (a := []) h (by simp)
  rw [h1]
  simp only [Option.bind_some, h2]
  rw [List.take_of_length_le (by rw [shp_length]; exact Nat.le_refl _)]

theorem shape276 {l : List Int} (h : l.length < N) (hs : l.length ≤ 100000) : D276 N l = some (shp l) := by
  have inner : ∀ (out : List Int) (i : Nat) (hi : i < l.length), Lp276_7 N N (l, out, l[i], Int.ofNat 1, l, Int.ofNat l.length, Int.ofNat i, l, Int.ofNat l.length, Int.ofNat 0) = some (l, out, l[i], Int.ofNat (1 + l.countP (fun y => decide (y < l[i]))), l, Int.ofNat l.length, Int.ofNat i, l, Int.ofNat l.length, Int.ofNat l.length, false) := by
    intro out i hi
    obtain ⟨b, h1, h2⟩ := gather0 (Lp := Lp276_7 N) (st := fun j (c : Nat) => (l, out, l[i], Int.ofNat c, l, Int.ofNat l.length, Int.ofNat i, l, Int.ofNat l.length, Int.ofNat j)) (len := l.length) (f := fun j c => bif iLt (List.getD l j (Int.ofNat 0)) l[i] then c + 1 else c)
      (rE := fun c => (l, out, l[i], Int.ofNat c, l, Int.ofNat l.length, Int.ofNat i, l, Int.ofNat l.length, Int.ofNat l.length, false)) (fun j c => c = 1 + (l.take j).countP (fun y => decide (y < l[i])))
      (fun n j c hj hc => by
        have hb : c < 4611686018427387904 := by
          have : (l.take j).countP (fun y => decide (y < l[i])) ≤ (l.take j).length := List.countP_le_length
          simp at this; omega
        show L276_7 N _ (Lp276_7 N n) some = _
        unfold L276_7
        simp only [n_lt, n_in, n_nat, n_inc (show j < 4611686018427387904 by omega), n_inc hb, hj, decide_true, cond_true]
        cases iLt (List.getD l j (Int.ofNat 0)) l[i] <;> rfl)
      (fun j c hj hc => by
        rw [hc, count_step l _ hj, getD_at hj]
        cases iLt l[j] l[i] <;> simp <;> omega)
      (fun n c hc => by
        show L276_7 N _ (Lp276_7 N n) some = _
        unfold L276_7
        simp only [n_lt, Nat.lt_irrefl, decide_false, cond_false]) (fuel := N) (a := 1) h (by simp)
    rw [h1, h2, List.take_length]
  unfold D276 T276
  obtain ⟨b, h1, h2⟩ := gather0 (Lp := Lp276_3 N) (st := fun j (o : List Int) => (l, o, l, Int.ofNat l.length, Int.ofNat j)) (len := l.length) (f := fun j o => o ++ [1 + (l.countP (fun y => decide (y < List.getD l j (Int.ofNat 0))) : Int)])
      (rE := fun o => (l, o, l, Int.ofNat l.length, Int.ofNat l.length, false)) (fun j o => o = (shp l).take j)
      (fun n j o hj ho => by
        show L276_3 N _ (Lp276_3 N n) some = _
        unfold L276_3
        have hc : capB (o ++ [Int.ofNat (1 + l.countP (fun y => decide (y < l[j])))]).length = true := n_cap (by rw [ho]; simp [shp_length]; omega)
        simp only [n_lt, n_in, n_nat, hj, decide_true, cond_true, getD_at hj, inner o j hj, Option.bind_some, hc, n_inc (show j < 4611686018427387904 by omega)]
        try congr 2
        try simp only [Prod.mk.injEq, true_and, and_true, List.append_cancel_left_eq, List.cons.injEq, Int.ofNat_eq_natCast]
        try omega)
      (fun j o hj ho => by rw [ho, getD_at hj]; exact take_shp hj)
      (fun n o ho => by
        show L276_3 N _ (Lp276_3 N n) some = _
        unfold L276_3
        simp only [n_lt, Nat.lt_irrefl, decide_false, cond_false]) (fuel := N) (a := []) h (by simp)
  rw [h1]
  simp only [Option.bind_some, h2]
  rw [List.take_of_length_le (by rw [shp_length]; exact Nat.le_refl _)]
end
end Go.Proofs.Ytmcldnoofgkidaa
