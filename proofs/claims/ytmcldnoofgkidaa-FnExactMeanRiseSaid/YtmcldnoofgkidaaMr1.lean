/- The law FnExactMeanRise: the two means are means of the same numbers. -/
import Derived.Test.YtmcldnoofgkidaaMr0
set_option linter.unusedVariables false
set_option linter.unusedSimpArgs false
namespace Go.Proofs.Ytmcldnoofgkidaa
open Go Go.Tm

theorem wrap_inc {j : Nat} (h : j < 100000) : wrapF .i64 (Int.ofNat j + Int.ofNat 1) = Int.ofNat (j + 1) := by
  rw [wrapF_eq, wrap64_id] <;> simp only [Int.ofNat_eq_natCast] <;> omega

theorem blt_true {a b : Nat} (h : a < b) : iLt (Int.ofNat a) (Int.ofNat b) = true := by
  rw [iLt_iff]; simp only [Int.ofNat_eq_natCast]; omega
theorem blt_false {a b : Nat} (h : b ≤ a) : iLt (Int.ofNat a) (Int.ofNat b) = false := by
  rw [Bool.eq_false_iff]; intro e; rw [iLt_iff] at e; simp only [Int.ofNat_eq_natCast] at e; omega
theorem inB_true {a b : Nat} (h : a < b) : inB (Int.ofNat a) b = true := by
  show Nat.blt a b = true
  rw [Nat.blt_eq]; exact h
theorem capB_small {n : Nat} (h : n ≤ 100000) : capB n = true := by
  unfold capB; rw [Nat.ble_eq]; omega

section
variable {N : Nat} {n : Int} {os : List (List Int)}

theorem mrA (hD : ∀ (k : Nat) o, os[k]? = some o → D239 N n (Int.ofNat k) = some o) (hlen : os.length ≤ 1000) :
    ∀ (m j fuel : Nat), j + m = os.length → m < fuel → Lp186_3 N fuel (n, os.take j, Int.ofNat os.length, Int.ofNat j) = some (n, os, Int.ofNat os.length, Int.ofNat os.length, false) := by
  intro m
  induction m with
  | zero =>
    intro j fuel hj hf
    obtain ⟨f, rfl⟩ : ∃ f, fuel = f + 1 := ⟨fuel - 1, by omega⟩
    have hj' : j = os.length := by omega
    subst hj'
    show L186_3 N _ (Lp186_3 N f) some = _
    unfold L186_3
    simp only [blt_false (Nat.le_refl _), cond_false, List.take_length]
  | succ m ih =>
    intro j fuel hj hf
    obtain ⟨f, rfl⟩ : ∃ f, fuel = f + 1 := ⟨fuel - 1, by omega⟩
    have hlt : j < os.length := by omega
    have ho : os[j]? = some os[j] := List.getElem?_eq_getElem hlt
    show L186_3 N _ (Lp186_3 N f) some = _
    unfold L186_3
    have hc : capB (List.take j os ++ [os[j]]).length = true := capB_small (by simp; omega)
    simp only [blt_true hlt, cond_true, hD j _ ho, Option.bind_some, hc, wrap_inc (show j < 100000 by omega)]
    rw [show List.take j os ++ [os[j]] = List.take (j + 1) os by rw [List.take_add_one, ho]; rfl]
    exact ih (j + 1) f (by omega) (by omega)

theorem mrB (hD : ∀ (k : Nat) o, os[k]? = some o → D210 N n (Int.ofNat k) = some o) (hW : D209 N n = some (Int.ofNat os.length)) (hlen : os.length ≤ 1000) :
    ∀ (m j fuel : Nat), j + m = os.length → m < fuel → Lp108_3 N fuel (n, os.take j, Int.ofNat j) = some (n, os, Int.ofNat os.length, false) := by
  intro m
  induction m with
  | zero =>
    intro j fuel hj hf
    obtain ⟨f, rfl⟩ : ∃ f, fuel = f + 1 := ⟨fuel - 1, by omega⟩
    have hj' : j = os.length := by omega
    subst hj'
    show L108_3 N _ (Lp108_3 N f) some = _
    unfold L108_3
    simp only [hW, Option.bind_some, blt_false (Nat.le_refl _), cond_false, List.take_length]
  | succ m ih =>
    intro j fuel hj hf
    obtain ⟨f, rfl⟩ : ∃ f, fuel = f + 1 := ⟨fuel - 1, by omega⟩
    have hlt : j < os.length := by omega
    have ho : os[j]? = some os[j] := List.getElem?_eq_getElem hlt
    show L108_3 N _ (Lp108_3 N f) some = _
    unfold L108_3
    have hc : capB (List.take j os ++ [os[j]]).length = true := capB_small (by simp; omega)
    simp only [hW, Option.bind_some, blt_true hlt, cond_true, hD j _ ho, hc, wrap_inc (show j < 100000 by omega)]
    rw [show List.take j os ++ [os[j]] = List.take (j + 1) os by rw [List.take_add_one, ho]; rfl]
    exact ih (j + 1) f (by omega) (by omega)

/-- The sum as the program reckons it. -/
def sumW : Int → List Int → Int
  | s, [] => s
  | s, l :: ls => sumW (wrapF .i64 (s + l)) ls

variable {ls : List Int}

theorem mrC (hl : ls.length = os.length) (hD : ∀ (k : Nat) o l, os[k]? = some o → ls[k]? = some l → D112 N o = some l) (hlen : os.length ≤ 1000) (z : List Int) :
    ∀ (m j fuel : Nat) (s : Int), j + m = os.length → m < fuel → Lp213_3 N fuel (n, s, os, Int.ofNat os.length, Int.ofNat j, z) = some (n, sumW s (ls.drop j), os, Int.ofNat os.length, Int.ofNat os.length, false, z) := by
  intro m
  induction m with
  | zero =>
    intro j fuel s hj hf
    obtain ⟨f, rfl⟩ : ∃ f, fuel = f + 1 := ⟨fuel - 1, by omega⟩
    have hj' : j = os.length := by omega
    subst hj'
    show L213_3 N _ (Lp213_3 N f) some = _
    unfold L213_3
    simp only [blt_false (Nat.le_refl _), cond_false]
    rw [← hl, List.drop_length]
    rfl
  | succ m ih =>
    intro j fuel s hj hf
    obtain ⟨f, rfl⟩ : ∃ f, fuel = f + 1 := ⟨fuel - 1, by omega⟩
    have hlt : j < os.length := by omega
    have hlt' : j < ls.length := by omega
    have ho : os[j]? = some os[j] := List.getElem?_eq_getElem hlt
    have hl' : ls[j]? = some ls[j] := List.getElem?_eq_getElem hlt'
    show L213_3 N _ (Lp213_3 N f) some = _
    unfold L213_3
    have hg : List.getD os (Int.ofNat j).toNat [] = os[j] := by
      show List.getD os j [] = _
      rw [List.getD_eq_getElem?_getD, ho]; rfl
    simp only [blt_true hlt, cond_true, inB_true hlt, hg, hD j _ _ ho hl', Option.bind_some, wrap_inc (show j < 100000 by omega)]
    rw [ih (j + 1) f _ (by omega) (by omega)]
    rw [List.drop_eq_getElem_cons hlt']
    rfl

theorem mrD (hl : ls.length = os.length) (hD : ∀ (k : Nat) o l, os[k]? = some o → ls[k]? = some l → rowOk (D109 N o) l = true) (hlen : os.length ≤ 1000) (z : List Int) :
    ∀ (m j fuel : Nat) (s : Int), j + m = os.length → m < fuel → Lp11_5 N fuel (s, os, Int.ofNat j, z) = some (sumW s (ls.drop j), os, Int.ofNat os.length, false, z) := by
  intro m
  induction m with
  | zero =>
    intro j fuel s hj hf
    obtain ⟨f, rfl⟩ : ∃ f, fuel = f + 1 := ⟨fuel - 1, by omega⟩
    have hj' : j = os.length := by omega
    subst hj'
    show L11_5 N _ (Lp11_5 N f) some = _
    unfold L11_5
    simp only [blt_false (Nat.le_refl _), cond_false]
    rw [← hl, List.drop_length]
    rfl
  | succ m ih =>
    intro j fuel s hj hf
    obtain ⟨f, rfl⟩ : ∃ f, fuel = f + 1 := ⟨fuel - 1, by omega⟩
    have hlt : j < os.length := by omega
    have hlt' : j < ls.length := by omega
    have ho : os[j]? = some os[j] := List.getElem?_eq_getElem hlt
    have hl' : ls[j]? = some ls[j] := List.getElem?_eq_getElem hlt'
    show L11_5 N _ (Lp11_5 N f) some = _
    unfold L11_5
    have hg : List.getD os (Int.ofNat j).toNat [] = os[j] := by
      show List.getD os j [] = _
      rw [List.getD_eq_getElem?_getD, ho]; rfl
    have hr := hD j _ _ ho hl'
    unfold rowOk at hr
    split at hr
    · rename_i r hr'
      simp only [Bool.and_eq_true, iEq_iff] at hr
      simp only [blt_true hlt, cond_true, inB_true hlt, hg, hr', Option.bind_some, hr.1, hr.2, wrap_inc (show j < 100000 by omega)]
      rw [ih (j + 1) f _ (by omega) (by omega)]
      rw [List.drop_eq_getElem_cons hlt']
      rfl
    · cases hr
end

/-- Both means, out of one table. -/
theorem mean_ok {N : Nat} {n : Int} (tb : List (List Nat × Nat)) (S : Int) (f : List Int) (hN : tb.length < N) (hlen : tb.length ≤ 1000)
    (hc : chkL N n 0 tb = true) (h107 : D107 N n = some true) (h212 : D212 N n = some true) (h238 : D238 N n = some (Int.ofNat tb.length)) (h209 : D209 N n = some (Int.ofNat tb.length))
    (hS : sumW (Int.ofNat 0) ((tb.map mkE).map (·.2)) = S) (h251 : D251 N S (Int.ofNat tb.length) = some f) (h110 : D110 N S (Int.ofNat tb.length) = some f) (h13 : D13 N f f = some true) :
    D3 N n = some true := by
  have key : ∀ (t : List (List Nat × Nat)) (k j : Nat) e, chkL N n k t = true → t[j]? = some e → chk N n (Int.ofNat (k + j)) (mkE e) = true := by
    intro t
    induction t with
    | nil => intro k j e _ h; simp at h
    | cons x t ih =>
      intro k j e h hj
      simp only [chkL, Bool.and_eq_true] at h
      cases j with
      | zero => simp at hj; subst hj; exact h.1
      | succ j =>
        have := ih (k + 1) j e h.2 (by simpa using hj)
        rw [show k + 1 + j = k + (j + 1) by omega] at this
        exact this
  let os := (tb.map mkE).map (·.1)
  let ls := (tb.map mkE).map (·.2)
  have hol : os.length = tb.length := by simp [os]
  have hll : ls.length = os.length := by simp [os, ls]
  have at' : ∀ (k : Nat) o, os[k]? = some o → ∃ e, tb[k]? = some e ∧ o = (mkE e).1 ∧ ls[k]? = some (mkE e).2 := by
    intro k o ho
    simp only [os, List.map_map, List.getElem?_map, Option.map_eq_some_iff] at ho
    obtain ⟨e, he, rfl⟩ := ho
    exact ⟨e, he, rfl, by simp [ls, he]⟩
  have c : ∀ (k : Nat) o, os[k]? = some o → ∃ l, ls[k]? = some l ∧ D239 N n (Int.ofNat k) = some o ∧ D210 N n (Int.ofNat k) = some o ∧ D112 N o = some l ∧ rowOk (D109 N o) l = true := by
    intro k o ho
    obtain ⟨e, he, rfl, hl⟩ := at' k o ho
    have h := key tb 0 k e hc he
    rw [Nat.zero_add] at h
    simp only [chk, Bool.and_eq_true] at h
    exact ⟨_, hl, isL_iff h.1, isL_iff h.2.1, isI_iff h.2.2.1, h.2.2.2⟩
  have h186 : D186 N n = some os := by
    unfold D186 T186
    rw [h238, Option.bind_some, ← hol]
    have := mrA (N := N) (n := n) (os := os) (fun k o ho => (c k o ho).choose_spec.2.1) (by omega) os.length 0 N (by omega) (by omega)
    rw [List.take_zero] at this
    rw [this]; rfl
  have h108 : D108 N n = some os := by
    unfold D108 T108
    have := mrB (N := N) (n := n) (os := os) (fun k o ho => (c k o ho).choose_spec.2.2.1) (by rw [hol]; exact h209) (by omega) os.length 0 N (by omega) (by omega)
    rw [List.take_zero] at this
    rw [show (Int.ofNat 0) = Int.ofNat 0 from rfl, this]; rfl
  have hlk : ∀ (k : Nat) o l, os[k]? = some o → ls[k]? = some l → D112 N o = some l ∧ rowOk (D109 N o) l = true := by
    intro k o l ho hl
    obtain ⟨l', h1, _, _, h2, h3⟩ := c k o ho
    rw [hl] at h1
    injection h1 with h1
    subst h1
    exact ⟨h2, h3⟩
  have h213 : D213 N n = some f := by
    unfold D213 T213
    rw [h186, Option.bind_some]
    have := mrC (N := N) (n := n) (os := os) (ls := ls) hll (fun k o l ho hl => (hlk k o l ho hl).1) (by omega) (List.replicate 2 0) os.length 0 N (Int.ofNat 0) (by omega) (by omega)
    rw [this]
    simp only [Option.bind_some, List.drop_zero]
    rw [show sumW (Int.ofNat 0) ls = S from hS, h238, Option.bind_some, h251]; rfl
  have h11 : D11 N n = some (f, true) := by
    unfold D11 T11
    rw [h107, Option.bind_some]
    simp only [Bool.not_true, cond_false]
    rw [h108, Option.bind_some]
    have := mrD (N := N) (os := os) (ls := ls) hll (fun k o l ho hl => (hlk k o l ho hl).2) (by omega) (List.replicate 2 0) os.length 0 N (Int.ofNat 0) (by omega) (by omega)
    rw [this]
    simp only [Option.bind_some, List.drop_zero]
    rw [show sumW (Int.ofNat 0) ls = S from hS, hol, h110]; rfl
  have h12 : D12 N n = some (f, true) := by
    unfold D12 T12 D111 T111
    rw [h212, Option.bind_some]
    simp only [Bool.not_true, cond_false, Bool.not_false, cond_true]
    rw [h213]; rfl
  unfold D3 T3
  rw [h11, Option.bind_some, h12, Option.bind_some, h13]
  rfl

end Go.Proofs.Ytmcldnoofgkidaa
