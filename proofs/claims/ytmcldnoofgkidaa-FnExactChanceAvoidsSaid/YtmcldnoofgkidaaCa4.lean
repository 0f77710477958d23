/- The law FnExactChanceAvoids: what is contained in an order. -/
import Derived.Test.YtmcldnoofgkidaaCa3
set_option linter.unusedVariables false
set_option linter.unusedSimpArgs false
namespace Go.Proofs.Ytmcldnoofgkidaa
open Go Go.Tm Go.Pat
open Classical

/-- A scan that begins somewhere. -/
theorem scanFrom {V R S : Type} {Lp : Nat → V → Option R} {st : Nat → V} {len : Nat} {P : Nat → Bool} {rI : Nat → R} {rE : R}
    (hs : ∀ n j, j < len → Lp (n + 1) (st j) = bif P j then some (rI j) else Lp n (st (j + 1))) (he : ∀ n, Lp (n + 1) (st len) = some rE)
    {a fuel : Nat} (ha : a ≤ len) (hf : len < fuel) (f : R → S) {Q : Prop} {s1 s2 : S}
    (hI : ∀ j, a ≤ j → j < len → P j = true → Q ∧ f (rI j) = s1) (hE : (∀ j, a ≤ j → j < len → P j = false) → ¬ Q ∧ f rE = s2) :
    (Lp fuel (st a)).bind (fun r => some (f r)) = some (if Q then s1 else s2) := by
  have h := scan hs he (len - a) fuel (by omega) (by omega)
  rw [show len - (len - a) = a by omega] at h
  rw [h, Option.bind_some]
  rcases firstP_eq (P := P) (rI := rI) (rE := rE) (m := len) (len - a) (by omega) with ⟨j, h1, h2, h3, _, e⟩ | ⟨h1, e⟩
  · obtain ⟨q, e'⟩ := hI j (by omega) h2 h3
    rw [e, if_pos q, e']
  · obtain ⟨q, e'⟩ := hE fun j h2 h3 => h1 j (by omega) h3
    rw [e, if_neg q, e']

section
variable {N : Nat}

theorem In_at {o so p : List Int} {k : Nat} (h : so.length < p.length) : In so (o.drop k) p ↔ ∃ j, k ≤ j ∧ j < o.length ∧ In (so ++ [List.getD o j (Int.ofNat 0)]) (o.drop (j + 1)) p := by
  rw [In_step h]
  constructor
  · rintro ⟨i, hi, h1⟩
    have hi' : k + i < o.length := by simp at hi; omega
    refine ⟨k + i, by omega, hi', ?_⟩
    rw [getD_at hi']
    rw [List.getElem_drop, List.drop_drop] at h1
    exact h1
  · rintro ⟨j, h1, h2, h3⟩
    have hi : j - k < (o.drop k).length := by simp; omega
    refine ⟨j - k, hi, ?_⟩
    rw [List.getElem_drop, List.drop_drop]
    rw [getD_at h2] at h3
    have e : k + (j - k) = j := by omega
    simp only [e, show k + (j - k + 1) = j + 1 by omega]
    exact h3

theorem d273 {o p : List Int} (ho : o.length ≤ 10) (hp : p.length ≤ 10) (hN : 100 ≤ N) (hsh : shp p = p) :
    ∀ (f : Nat) (so : List Int) (k : Nat), so.length ≤ p.length → p.length - so.length < f → k ≤ o.length → D273 N f (o, p, so, Int.ofNat k) = some (decide (In so (o.drop k) p)) := by
  intro f
  induction f with
  | zero => intro so k _ h _; omega
  | succ f ih =>
    intro so k h1 h2 h3
    show T273 N (D273 N f) _ some = _
    have hloop : so.length < p.length → (Lp273_6 N (D273 N f) N (o, p, so, Int.ofNat k)).bind (Sum.elim (fun _ => some true) fun w7 => some false) = some (decide (In so (o.drop k) p)) := by
      intro hlt
      have := scanFrom (Lp := Lp273_6 N (D273 N f)) (st := fun j => (o, p, so, Int.ofNat j)) (len := o.length) (P := fun j => decide (In (so ++ [List.getD o j (Int.ofNat 0)]) (o.drop (j + 1)) p)) (rI := fun _ => .inl ()) (rE := .inr (o, p, so, Int.ofNat o.length, false))
        (fun n j hj => by
          show L273_6 N _ _ (Lp273_6 N (D273 N f) n) some = _
          unfold L273_6
          have e1 : D150 N so = some so := by
            unfold D150 T150
            rw [List.nil_append, n_cap (by omega)]; rfl
          have e2 : capB (so ++ [List.getD o j (Int.ofNat 0)]).length = true := n_cap (by simp; omega)
          have e3 := ih (so ++ [List.getD o j (Int.ofNat 0)]) (j + 1) (by simp; omega) (by simp; omega) (by omega)
          simp only [n_lt, n_in, n_nat, n_inc (show j < 4611686018427387904 by omega), hj, decide_true, cond_true, e1, Option.bind_some, e2, e3])
        (fun n => by
          show L273_6 N _ _ (Lp273_6 N (D273 N f) n) some = _
          unfold L273_6
          simp only [n_lt, Nat.lt_irrefl, decide_false, cond_false]) (fuel := N) h3 (by omega) (Sum.elim (fun _ => true) fun _ => false) (Q := In so (o.drop k) p) (s1 := true) (s2 := false)
        (fun j h4 h5 hP => ⟨(In_at hlt).2 ⟨j, h4, h5, by simpa using hP⟩, rfl⟩)
        (fun hE => ⟨fun hin => (by
          obtain ⟨j, h4, h5, h6⟩ := (In_at hlt).1 hin
          have := hE j h4 h5
          rw [decide_eq_true h6] at this
          cases this), rfl⟩)
      have e : (fun r : Unit ⊕ (List Int × List Int × List Int × Int × Bool) => some (Sum.elim (fun _ => true) (fun _ => false) r)) = Sum.elim (fun _ => some true) fun w7 => some false := by
        funext r; cases r <;> rfl
      rw [e] at this
      rw [this]
      by_cases q : In so (o.drop k) p <;> simp [q]
    have hend : shp so = shp (p.take so.length) → (bif (iEq (Int.ofNat (List.length so)) (Int.ofNat (List.length p))) then some true else (Lp273_6 N (D273 N f) N (o, p, so, Int.ofNat k)).bind (Sum.elim (fun _ => some true) fun w7 => some false)) = some (decide (In so (o.drop k) p)) := by
      intro hc
      rw [n_eq]
      by_cases he : so.length = p.length
      · rw [decide_eq_true he, cond_true, decide_eq_true ((In_done he).2 _)]
        rw [hc, he, List.take_length, hsh]
      · rw [decide_eq_false he, cond_false]
        exact hloop (by omega)
    unfold T273
    simp only [n_lt]
    by_cases h0 : 0 < so.length
    · simp only [h0, decide_true, cond_true]
      have ht : (p.take so.length).length ≤ 10 := by simp; omega
      rw [shape281 (show so.length < N by omega) (by omega), Option.bind_some, n_cut (Nat.zero_le _) h1, cond_true, n_nat, Nat.sub_zero, List.drop_zero, shape281 (by omega) (by omega), Option.bind_some,
        same151 (by rw [shp_length]; omega) (by rw [shp_length]; omega), Option.bind_some]
      by_cases hc : shp so = shp (p.take so.length)
      · rw [decide_eq_true hc, Bool.not_true, cond_false]
        exact hend hc
      · rw [decide_eq_false hc, Bool.not_false, cond_true, decide_eq_false fun hin => hc (In_prefix hsh hin)]
    · simp only [h0, decide_false, cond_false]
      have : so = [] := List.eq_nil_of_length_eq_zero (by omega)
      subst this
      exact hend rfl

theorem d255 {o p : List Int} (ho : o.length ≤ 10) (hN : 100 ≤ N) (hp : Ord p) : D255 N o p = some (decide (In [] o p)) := by
  unfold D255 T255
  have := d273 (N := N) (o := o) (p := p) ho (by have := hp.hi; omega) hN (shp_ord hp) N [] 0 (by simp) (by have := hp.hi; simp; omega) (by omega)
  rw [this]
  rfl

/-! ### The other way -/
theorem d216 {o : List Int} {qs : List Nat} (hq : ∀ q ∈ qs, q < o.length) (hl : qs.length ≤ 100) (hN : 1000 ≤ N) : D216 N o (qs.map Int.ofNat) = some (qs.map fun q => List.getD o q (Int.ofNat 0)) := by
  unfold D216 T216
  have hlen : (qs.map Int.ofNat).length = qs.length := by simp
  obtain ⟨b, h1, h2⟩ := gather0 (Lp := Lp216_3 N) (st := fun j (a : List Int) => (o, a, qs.map Int.ofNat, Int.ofNat qs.length, Int.ofNat j)) (len := qs.length) (f := fun j a => a ++ [List.getD o (List.getD qs j 0) (Int.ofNat 0)])
    (rE := fun a => (o, a, qs.map Int.ofNat, Int.ofNat qs.length, Int.ofNat qs.length, false)) (fun j a => a = (qs.map fun q => List.getD o q (Int.ofNat 0)).take j)
    (fun n j a hj ha => by
      show L216_3 N _ (Lp216_3 N n) some = _
      unfold L216_3
      have e1 : List.getD (qs.map Int.ofNat) j (Int.ofNat 0) = Int.ofNat (List.getD qs j 0) := by
        rw [getD_at (by simpa using hj), getD_at hj, List.getElem_map]
      have e2 : List.getD qs j 0 < o.length := by rw [getD_at hj]; exact hq _ (List.getElem_mem hj)
      have e3 : capB (a ++ [List.getD o (List.getD qs j 0) (Int.ofNat 0)]).length = true := n_cap (by rw [ha]; simp; omega)
      simp only [n_lt, n_in, n_nat, n_inc (show j < 4611686018427387904 by omega), hj, hlen, decide_true, cond_true, e1, e2, e3])
    (fun j a hj ha => by
      rw [ha, List.take_add_one, List.getElem?_eq_getElem (by simpa using hj)]
      simp only [List.getElem_map, Option.toList, getD_at hj])
    (fun n a ha => by
      show L216_3 N _ (Lp216_3 N n) some = _
      unfold L216_3
      simp only [n_lt, Nat.lt_irrefl, decide_false, cond_false]) (fuel := N) (a := []) (by omega) (by simp)
  rw [hlen, h1, Option.bind_some, h2, List.take_of_length_le (by simp)]

theorem clone_eq {l : List Int} (h : l.length ≤ 4398046511104) : D154 N l = some l := by
  unfold D154 DClone
  first
    | rfl
    | (rw [n_cap h]; rfl)
    | (simp only [List.nil_append, n_cap h, cond_true])

theorem d252 {o p : List Int} (ho : o.length ≤ 10) (hp : p.length ≤ 10) (hN : 1000 ≤ N) (hsh : shp p = p) :
    ∀ (f : Nat) (qs : List Nat) (k : Nat) (at0 : List Int), (∀ q ∈ qs, q < o.length) → qs.length ≤ p.length → p.length - qs.length < f → k ≤ o.length →
      ∃ at1, D252x1 N f (qs.map Int.ofNat, Int.ofNat k, Int.ofNat p.length, Int.ofNat o.length, o, p, false, at0) = some (decide (In (qs.map fun q => List.getD o q (Int.ofNat 0)) (o.drop k) p), Int.ofNat p.length, Int.ofNat o.length, o, p, decide (In (qs.map fun q => List.getD o q (Int.ofNat 0)) (o.drop k) p), at1) := by
  intro f
  induction f with
  | zero => intro qs k at0 _ _ h _; omega
  | succ f ih =>
    intro qs k at0 hq h1 h2 h3
    have hlen : (qs.map Int.ofNat).length = qs.length := by simp
    have hlen' : (qs.map fun q => List.getD o q (Int.ofNat 0)).length = qs.length := by simp
    show ∃ at1, T252x1 N (D252x1 N f) _ some = _
    unfold T252x1
    simp only [hlen, n_eq]
    by_cases he : qs.length = p.length
    · refine ⟨qs.map Int.ofNat, ?_⟩
      simp only [he, decide_true, cond_true]
      unfold D274x1 T274x1
      rw [d216 hq (by omega) hN, Option.bind_some, shape276 (by rw [hlen']; omega) (by rw [hlen']; omega), Option.bind_some, same275 (by rw [shp_length, hlen']; omega) (by rw [shp_length, hlen']; omega), Option.bind_some]
      have e : decide (In (qs.map fun q => List.getD o q (Int.ofNat 0)) (o.drop k) p) = decide (shp (qs.map fun q => List.getD o q (Int.ofNat 0)) = p) := by
        rw [decide_eq_decide]
        exact In_done (by rw [hlen', he])
      rw [e]
      rfl
    · simp only [he, decide_false, cond_false]
      have hlt : (qs.map fun q => List.getD o q (Int.ofNat 0)).length < p.length := by rw [hlen']; omega
      have hloop : ∀ (m j fuel : Nat) (at0 : List Int), j + m = o.length → m < fuel → ∃ at1 r, Lp252x1_4 N (D252x1 N f) fuel (qs.map Int.ofNat, Int.ofNat j, Int.ofNat p.length, Int.ofNat o.length, o, p, false, at0) = some r ∧
          ((r = .inl (Int.ofNat p.length, Int.ofNat o.length, o, p, true, at1) ∧ ∃ i, j ≤ i ∧ i < o.length ∧ In ((qs.map fun q => List.getD o q (Int.ofNat 0)) ++ [List.getD o i (Int.ofNat 0)]) (o.drop (i + 1)) p) ∨
           (r = .inr (qs.map Int.ofNat, Int.ofNat o.length, false, Int.ofNat p.length, Int.ofNat o.length, o, p, false, at1) ∧ ∀ i, j ≤ i → i < o.length → ¬ In ((qs.map fun q => List.getD o q (Int.ofNat 0)) ++ [List.getD o i (Int.ofNat 0)]) (o.drop (i + 1)) p)) := by
        intro m
        induction m with
        | zero =>
          intro j fuel at0 hj hf
          obtain ⟨g, rfl⟩ : ∃ g, fuel = g + 1 := ⟨fuel - 1, by omega⟩
          have hj' : j = o.length := by omega
          subst hj'
          refine ⟨at0, _, ?_, .inr ⟨rfl, fun i h4 h5 => by omega⟩⟩
          show L252x1_4 N _ _ (Lp252x1_4 N (D252x1 N f) g) some = _
          unfold L252x1_4
          simp only [n_lt, Nat.lt_irrefl, decide_false, cond_false]
        | succ m ihm =>
          intro j fuel at0 hj hf
          obtain ⟨g, rfl⟩ : ∃ g, fuel = g + 1 := ⟨fuel - 1, by omega⟩
          have hjl : j < o.length := by omega
          obtain ⟨at1, hr⟩ := ih (qs ++ [j]) (j + 1) at0 (fun q hq' => by
            rcases List.mem_append.1 hq' with h | h
            · exact hq q h
            · simp at h; omega) (by simp; omega) (by simp; omega) (by omega)
          have em : (qs ++ [j]).map Int.ofNat = qs.map Int.ofNat ++ [Int.ofNat j] := by simp
          have em' : ((qs ++ [j]).map fun q => List.getD o q (Int.ofNat 0)) = (qs.map fun q => List.getD o q (Int.ofNat 0)) ++ [List.getD o j (Int.ofNat 0)] := by simp
          rw [em, em'] at hr
          have ec : capB (qs.map Int.ofNat ++ [Int.ofNat j]).length = true := n_cap (by simp; omega)
          have estep : Lp252x1_4 N (D252x1 N f) (g + 1) (qs.map Int.ofNat, Int.ofNat j, Int.ofNat p.length, Int.ofNat o.length, o, p, false, at0) =
              bif decide (In ((qs.map fun q => List.getD o q (Int.ofNat 0)) ++ [List.getD o j (Int.ofNat 0)]) (o.drop (j + 1)) p) then some (.inl (Int.ofNat p.length, Int.ofNat o.length, o, p, true, at1))
              else Lp252x1_4 N (D252x1 N f) g (qs.map Int.ofNat, Int.ofNat (j + 1), Int.ofNat p.length, Int.ofNat o.length, o, p, false, at1) := by
            show L252x1_4 N _ _ (Lp252x1_4 N (D252x1 N f) g) some = _
            unfold L252x1_4
            simp only [n_lt, hjl, decide_true, cond_true, clone_eq (show (qs.map Int.ofNat).length ≤ 4398046511104 by rw [hlen]; omega), Option.bind_some, ec, n_inc (show j < 4611686018427387904 by omega), hr]
            cases decide (In ((qs.map fun q => List.getD o q (Int.ofNat 0)) ++ [List.getD o j (Int.ofNat 0)]) (o.drop (j + 1)) p) <;> rfl
          by_cases hin : In ((qs.map fun q => List.getD o q (Int.ofNat 0)) ++ [List.getD o j (Int.ofNat 0)]) (o.drop (j + 1)) p
          · refine ⟨at1, _, by rw [estep, decide_eq_true hin]; rfl, .inl ⟨rfl, j, Nat.le_refl _, hjl, hin⟩⟩
          · obtain ⟨at2, r, hr2, hcase⟩ := ihm (j + 1) g at1 (by omega) (by omega)
            refine ⟨at2, r, by rw [estep, decide_eq_false hin]; exact hr2, ?_⟩
            rcases hcase with ⟨e, i, h4, h5, h6⟩ | ⟨e, h4⟩
            · exact .inl ⟨e, i, by omega, h5, h6⟩
            · refine .inr ⟨e, fun i h5 h6 => ?_⟩
              by_cases e' : i = j
              · subst e'; exact hin
              · exact h4 i (by omega) h6
      obtain ⟨at1, r, hr, hcase⟩ := hloop (o.length - k) k N at0 (by omega) (by omega)
      refine ⟨at1, ?_⟩
      rw [hr, Option.bind_some]
      rcases hcase with ⟨e, i, h4, h5, h6⟩ | ⟨e, h4⟩
      · rw [decide_eq_true ((In_at hlt).2 ⟨i, h4, h5, h6⟩), e]; rfl
      · have hn : ¬ In (qs.map fun q => List.getD o q (Int.ofNat 0)) (o.drop k) p := fun hin => by
          obtain ⟨i, h5, h6, h7⟩ := (In_at hlt).1 hin
          exact h4 i h5 h6 h7
        rw [decide_eq_false hn, e]; rfl

theorem d227 {o p : List Int} (ho : o.length ≤ 10) (hN : 1000 ≤ N) (hp : Ord p) : D227 N o p = some (decide (In [] o p)) := by
  unfold D227 T227 D257 T257 D214 T214
  obtain ⟨at1, h⟩ := d252 (N := N) (o := o) (p := p) ho (by have := hp.hi; omega) hN (shp_ord hp) N [] 0 [] (by simp) (by simp) (by have := hp.hi; simp; omega) (by omega)
  rw [List.map_nil, List.map_nil, List.drop_zero] at h
  rw [h, Option.bind_some, Option.bind_some]
  by_cases e : In [] o p
  · simp only [e, decide_true, Bool.not_true, cond_false]; rfl
  · simp only [e, decide_false, Bool.not_false, cond_true]; rfl
end
end Go.Proofs.Ytmcldnoofgkidaa
