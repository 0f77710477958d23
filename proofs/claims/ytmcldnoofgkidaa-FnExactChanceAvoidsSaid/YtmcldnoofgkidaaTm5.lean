/- The T-machine: slices that are read. -/
import Derived.Test.YtmcldnoofgkidaaTm4
set_option linter.unusedVariables false
set_option linter.unusedSimpArgs false
namespace Go.Tm
open Go.RowKit

theorem add_add (a : Addr) (i j : Nat) : (a.add i).add j = a.add (i + j) := by
  unfold Addr.add
  by_cases hi : i = 0
  · subst hi; simp
  · by_cases hj : j = 0
    · subst hj; simp [hi]
    · simp [hi, hj, Nat.add_assoc]

theorem add_zero' (a : Addr) : a.add 0 = a := by simp [Addr.add]
theorem map_add_zero (a : Option Addr) : a.map (·.add 0) = a := by cases a <;> simp [add_zero']

theorem SlI.win {O : Lbl} {w : World} {hv v : Value} {cs : List Value} {lo n : Nat} (h : SlI O w hv cs) (hw : IsWin hv v lo n) : SlI O w v ((cs.drop lo).take n) := by
  obtain ⟨a, cap, rfl, h1, h2, h3⟩ := h
  obtain ⟨b, l, cap', a', he, q1, q2, rfl, q3⟩ := hw
  injection he with e1 e2 e3
  subst e1; subst e2; subst e3
  have hl : ((cs.drop lo).take n).length = n := by simp; omega
  refine ⟨a', cap - lo, by rw [hl], by rw [hl]; omega, by rw [hl]; omega, fun hne => ?_⟩
  have hn : 0 < n := by
    rcases Nat.eq_zero_or_pos n with h | h
    · subst h; exact absurd (List.take_zero ..) hne
    · exact h
  have hne' : cs ≠ [] := by rintro rfl; simp at q1; omega
  obtain ⟨ad, rfl, i1, i2⟩ := h3 hne'
  have := q3 (.inl hn)
  subst this
  refine ⟨ad.add lo, rfl, ?_, fun j u hu => ?_⟩
  · have hb : (ad.add lo).block = ad.block := by unfold Addr.add; split <;> rfl
    rw [hb]; exact i1
  · rw [add_add]
    refine i2 (lo + j) u ?_
    rw [List.getElem?_take] at hu
    split at hu
    · rw [List.getElem?_drop] at hu; exact hu
    · cases hu

/-- What may be taken for being read alone: labels under which the tokens of a value are 'im'. -/
def Lends (O O' : Lbl) (σs : List Nat) : Prop := (∀ g, O g = .im → O' g = .im) ∧ ∀ σ ∈ σs, ∀ g p, O g = .ow σ p → O' g = .im

theorem SlO.lent {O O' : Lbl} {w : World} {lab : Lab} {e : TypeId} {v : Value} {cs : List Value} (h : SlO O w lab e v cs) (hk : ∀ g, O g = lab → O' g = .im) : SlI O' w v cs :=
  SlO.frozen (O' := O') (w' := w) h (fun g hg _ => ⟨hk g hg, rfl⟩) h.len.1

theorem VC.lent {E : El} {O O' : Lbl} {w : World} {τ : Nat} {v : Value} {c : Ct} (h : VC E O w τ v c) (hnh : ∀ k xss, c ≠ .hole k xss) (hk : ∀ g, O g = .im → O' g = .im) (ho : ∀ g p, O g = .ow τ p → O' g = .im) : VP O' w v c.pv := by
  cases c with
  | ints k xs => exact SlO.lent h fun g hg => ho g none hg
  | strs xs => exact SlO.lent h fun g hg => ho g none hg
  | rows own xss =>
    obtain ⟨hs, h1, h2, h3⟩ := h
    refine ⟨hs, h1.lent fun g hg => ho g none hg, h2, fun j h xs hh hx => ?_⟩
    obtain ⟨a1, a2⟩ := h3 j h xs hh hx
    cases own with
    | true => exact (a1 rfl).lent fun g hg => ho g (some j) hg
    | false => exact (a2 rfl).keep fun g hg => ⟨hk g hg, rfl⟩
  | hole k xss => exact absurd rfl (hnh k xss)

theorem VC.len {E : El} {O : Lbl} {w : World} {τ : Nat} {v : Value} {c : Ct} (h : VC E O w τ v c) : c.len ≤ maxLen ∧ ∃ a cap, v = .slice a c.len cap ∧ c.len ≤ cap := by
  cases c with
  | ints k xs => have := SlO.len h; simpa [vints, Ct.len] using this
  | strs xs => have := SlO.len h; simpa [vstrs, Ct.len] using this
  | rows own xss => obtain ⟨hs, h1, h2, _⟩ := h; have := h1.len; rw [h2] at this; exact this
  | hole k xss => obtain ⟨hs, h1, h2, _⟩ := h; have := h1.len; rw [h2] at this; exact this

/-- The length of a pure value that is a slice. -/
def PV.slen : PV → Option Nat
  | .nil => some 0
  | .ints _ xs => some xs.length
  | .strs xs => some xs.length
  | .rows xss => some xss.length
  | _ => none

theorem VP.slen {O : Lbl} {w : World} {v : Value} {x : PV} {m : Nat} (h : VP O w v x) (hx : x.slen = some m) : m ≤ maxLen ∧ ∃ a cap, v = .slice a m cap ∧ m ≤ cap := by
  cases x with
  | nil => simp [PV.slen] at hx; subst hx; exact ⟨Nat.zero_le _, none, 0, h, Nat.le_refl _⟩
  | ints k xs =>
    simp [PV.slen] at hx; subst hx
    obtain ⟨a, cap, h1, h2, h3, _⟩ := h
    simp only [vints, List.length_map] at h1 h2 h3
    exact ⟨h3, a, cap, h1, h2⟩
  | strs xs =>
    simp [PV.slen] at hx; subst hx
    obtain ⟨a, cap, h1, h2, h3, _⟩ := h
    simp only [vstrs, List.length_map] at h1 h2 h3
    exact ⟨h3, a, cap, h1, h2⟩
  | rows xss =>
    simp [PV.slen] at hx; subst hx
    obtain ⟨hs, ⟨a, cap, h1, h2, h3, _⟩, h5, _⟩ := h
    rw [h5] at h1 h2 h3
    exact ⟨h3, a, cap, h1, h2⟩
  | _ => simp [PV.slen] at hx

theorem VP.win {O : Lbl} {w : World} {hv v : Value} {x : PV} {lo n : Nat} (h : VP O w hv x) (hs : ∃ m, x.slen = some m ∧ x ≠ .nil) (hw : IsWin hv v lo n) : VP O w v (x.cut lo n) := by
  cases x with
  | ints k xs =>
    have := SlI.win h hw
    simpa [PV.cut, VP, vints, List.map_take, List.map_drop] using this
  | strs xs =>
    have := SlI.win h hw
    simpa [PV.cut, VP, vstrs, List.map_take, List.map_drop] using this
  | rows xss =>
    obtain ⟨hs, h1, h2, h3⟩ := h
    refine ⟨(hs.drop lo).take n, h1.win hw, by simp [h2], fun j h xs hh hx => ?_⟩
    rw [List.getElem?_take] at hh hx
    split at hh
    · rename_i hj
      rw [if_pos hj, List.getElem?_drop] at hx
      rw [List.getElem?_drop] at hh
      exact h3 _ h xs hh hx
    · cases hh
  | _ => obtain ⟨m, h1, h2⟩ := hs; first | exact absurd rfl h2 | (simp [PV.slen] at h1)

/-- The inner row of a token. -/
theorem VC.inner {E : El} {O : Lbl} {w : World} {τ : Nat} {v : Value} {xss : List (List Int)} (h : VC E O w τ v (.rows true xss)) {k m : Nat} (hk : rowLen (.rows true xss) k = some m) {hv : Value} (hc : cellOf w v k = some hv) :
    SlO O w (.ow τ (some k)) (E.eI .i64) hv (vints .i64 (xss.getD k [])) ∧ k < xss.length ∧ (xss.getD k []).length = m := by
  obtain ⟨hs, h1, h2, h3⟩ := h
  simp only [rowLen, Option.map_eq_some_iff] at hk
  obtain ⟨xs, hx, hm⟩ := hk
  have hlt : k < xss.length := (List.getElem?_eq_some_iff.1 hx).1
  have hlt' : k < hs.length := by omega
  have hh : hs[k]? = some hs[k] := List.getElem?_eq_getElem hlt'
  obtain ⟨g, cap, rfl, hg, hcell, _⟩ := h1.cell hh
  simp only [cellOf, add0] at hc
  rw [hcell] at hc
  injection hc with hc
  have e : xss.getD k [] = xs := by simp [List.getD_eq_getElem?_getD, hx]
  rw [e]
  have := (h3 k hs[k] xs hh hx).1 rfl
  rw [← hc]
  exact ⟨this, hlt, hm⟩

section
variable {P : Program} {K : Kf} {E : El} {n : Nat} {G : Gh} {s : St} {a : Act} {w : World} {CR : CRel} {o : Oper} {u : St}

theorem runs_pvOf (R : Rel E n G s a w) {val : Value} {v : VV} (hv : VR G s w val v) {k : PV → Rd} (h : Runs CR s (pvOf v k) u) :
    ∃ x, (∀ O', Lends G.O O' v.toks → VP O' w val x) ∧ Runs CR s (k x) u := by
  cases v with
  | sc x => exact ⟨x, fun O' hl => VP.keep hv fun g hg => ⟨hl.1 g hg, rfl⟩, h⟩
  | rf τ =>
    simp only [pvOf, Runs] at h
    have hv' : (s.get (.tok τ)).live = true → val = G.H τ := hv.2
    split at h
    · rename_i iv b xs hc
      rw [hv' (by rw [hc]; rfl)]
      exact ⟨_, fun O' hl => (R.toks τ _ _ hc).lent (by intro _ _ h; cases h) hl.1 fun g p hg => hl.2 τ (by simp [VV.toks]) g p hg, h⟩
    · rename_i iv xs hc
      rw [hv' (by rw [hc]; rfl)]
      exact ⟨_, fun O' hl => (R.toks τ _ _ hc).lent (by intro _ _ h; cases h) hl.1 fun g p hg => hl.2 τ (by simp [VV.toks]) g p hg, h⟩
    · rename_i iv b xs hc
      rw [hv' (by rw [hc]; rfl)]
      exact ⟨_, fun O' hl => (R.toks τ _ _ hc).lent (by intro _ _ h; cases h) hl.1 fun g p hg => hl.2 τ (by simp [VV.toks]) g p hg, h⟩
    · rename_i x hc
      rw [hv' (by rw [hc]; rfl)]
      exact ⟨_, fun O' hl => (R.froz τ _ hc).keep fun g hg => ⟨hl.1 g hg, rfl⟩, h⟩
    · exact h.elim
  | rw τ lo m =>
    simp only [pvOf, Runs] at h
    have hv' : (s.get (.tok τ)).live = true → IsWin (G.H τ) val lo m := hv.2
    split at h
    · rename_i iv b xs hc
      have hw := hv' (by rw [hc]; rfl)
      exact ⟨_, fun O' hl => ((R.toks τ _ _ hc).lent (by intro _ _ h; cases h) hl.1 fun g p hg => hl.2 τ (by simp [VV.toks]) g p hg).win ⟨_, rfl, by intro h; cases h⟩ hw, h⟩
    · rename_i iv xs hc
      have hw := hv' (by rw [hc]; rfl)
      exact ⟨_, fun O' hl => ((R.toks τ _ _ hc).lent (by intro _ _ h; cases h) hl.1 fun g p hg => hl.2 τ (by simp [VV.toks]) g p hg).win ⟨_, rfl, by intro h; cases h⟩ hw, h⟩
    · rename_i iv b xs hc
      have hw := hv' (by rw [hc]; rfl)
      exact ⟨_, fun O' hl => ((R.toks τ _ _ hc).lent (by intro _ _ h; cases h) hl.1 fun g p hg => hl.2 τ (by simp [VV.toks]) g p hg).win ⟨_, rfl, by intro h; cases h⟩ hw, h⟩
    · rename_i x hc
      have hw := hv' (by rw [hc]; rfl)
      have hf := R.froz τ _ hc
      refine ⟨_, fun O' hl => ?_, h⟩
      have hf' : VP O' w (G.H τ) x := hf.keep fun g hg => ⟨hl.1 g hg, rfl⟩
      obtain ⟨a, l, cap, a', q0, q1, q2, q3, q4⟩ := hw
      cases x with
      | nil =>
        have e : G.H τ = .slice none 0 0 := hf
        rw [e] at q0
        injection q0 with e1 e2 e3
        subst e1; subst e2; subst e3
        have : lo = 0 ∧ m = 0 := by omega
        obtain ⟨rfl, rfl⟩ := this
        have := q4 (.inr rfl)
        subst this
        rw [q3]
        rfl
      | ints k xs => exact hf'.win ⟨_, rfl, by intro h; cases h⟩ ⟨a, l, cap, a', q0, q1, q2, q3, q4⟩
      | strs xs => exact hf'.win ⟨_, rfl, by intro h; cases h⟩ ⟨a, l, cap, a', q0, q1, q2, q3, q4⟩
      | rows xs => exact hf'.win ⟨_, rfl, by intro h; cases h⟩ ⟨a, l, cap, a', q0, q1, q2, q3, q4⟩
      | int k z => have e : G.H τ = .int k z := hf; rw [e] at q0; cases q0
      | bool z => have e : G.H τ = .bool z := hf; rw [e] at q0; cases q0
      | str z => have e : G.H τ = .string z := hf; rw [e] at q0; cases q0
      | arr k z xs => have e := hf.1; rw [e] at q0; cases q0
    · exact h.elim
  | ri τ iv j =>
    simp only [pvOf, Runs] at h
    split at h
    · rename_i iv' xss hc
      obtain ⟨hb, h⟩ := h
      have hb' : iv = iv' := by simpa using hb
      subst hb'
      obtain ⟨m, r1, r2⟩ := (hv.2 _ _ hc).2 rfl
      refine ⟨_, fun O' hl => ?_, h⟩
      exact ((R.toks τ _ _ hc).inner r1 r2).1.lent fun g hg => hl.2 τ (by simp [VV.toks]) g _ hg
    · exact h.elim
  | _ => exact h.elim

theorem runs_lenOf (R : Rel E n G s a w) {val : Value} {v : VV} (hv : VR G s w val v) {k : Nat → Rd} (h : Runs CR s (lenOf v k) u) :
    ∃ m, ((∃ z, v = .sc (.str z) ∧ val = .string z ∧ m = z.size) ∨ ((∀ z, v ≠ .sc (.str z)) ∧ m ≤ maxLen ∧ ∃ a cap, val = .slice a m cap ∧ m ≤ cap)) ∧ Runs CR s (k m) u := by
  have isl : ∀ {x : PV} {m : Nat}, VP G.O w val x → x.slen = some m → m ≤ maxLen ∧ ∃ a cap, val = .slice a m cap ∧ m ≤ cap := fun h hx => h.slen hx
  cases v with
  | sc x =>
    cases x with
    | str z => exact ⟨z.size, .inl ⟨z, rfl, hv, rfl⟩, h⟩
    | nil => exact ⟨0, .inr ⟨(by intro _ h; cases h), isl (x := .nil) hv rfl⟩, h⟩
    | ints k xs => exact ⟨_, .inr ⟨(by intro _ h; cases h), isl (x := .ints k xs) hv rfl⟩, h⟩
    | strs xs => exact ⟨_, .inr ⟨(by intro _ h; cases h), isl (x := .strs xs) hv rfl⟩, h⟩
    | rows xs => exact ⟨_, .inr ⟨(by intro _ h; cases h), isl (x := .rows xs) hv rfl⟩, h⟩
    | _ => exact h.elim
  | rf τ =>
    have hv' : (s.get (.tok τ)).live = true → val = G.H τ := hv.2
    simp only [lenOf, Runs] at h
    split at h
    · rename_i iv c hc
      refine ⟨_, .inr ⟨by (intro _ h; cases h), ?_⟩, h⟩
      rw [hv' (by rw [hc]; rfl)]
      exact (R.toks τ _ _ hc).len
    · rename_i b xs hc
      refine ⟨_, .inr ⟨by (intro _ h; cases h), ?_⟩, h⟩
      rw [hv' (by rw [hc]; rfl)]
      exact (R.froz τ _ hc).slen rfl
    · rename_i xs hc
      refine ⟨_, .inr ⟨by (intro _ h; cases h), ?_⟩, h⟩
      rw [hv' (by rw [hc]; rfl)]
      exact (R.froz τ _ hc).slen rfl
    · rename_i xs hc
      refine ⟨_, .inr ⟨by (intro _ h; cases h), ?_⟩, h⟩
      rw [hv' (by rw [hc]; rfl)]
      exact (R.froz τ _ hc).slen rfl
    · exact h.elim
  | rw τ lo m =>
    have hv' : (s.get (.tok τ)).live = true → IsWin (G.H τ) val lo m := hv.2
    have key : (s.get (.tok τ)).live = true → Runs CR s (k m) u → ∃ m, ((∃ z, VV.rw τ lo m = .sc (.str z) ∧ val = .string z ∧ m = z.size) ∨ ((∀ z, VV.rw τ lo m ≠ .sc (.str z)) ∧ m ≤ maxLen ∧ ∃ a cap, val = .slice a m cap ∧ m ≤ cap)) ∧ Runs CR s (k m) u := by
      intro hl h
      obtain ⟨b, l, cap, a', q0, q1, q2, q3, q4⟩ := hv' hl
      refine ⟨m, .inr ⟨by (intro _ h; cases h), ?_, a', cap - lo, q3, by omega⟩, h⟩
      have : l ≤ maxLen := by
        cases hs : s.get (.tok τ) with
        | v x => rw [hs] at hl; cases hl
        | t iv c =>
          obtain ⟨h1, b2, cap2, e, _⟩ := (R.toks τ iv c hs).len
          rw [e] at q0; injection q0 with _ e2 _; omega
        | f x =>
          have hf := R.froz τ x hs
          cases x with
          | nil => obtain ⟨h1, b2, cap2, e, _⟩ := hf.slen (x := .nil) rfl; rw [e] at q0; injection q0 with _ e2 _; omega
          | ints k xs => obtain ⟨h1, b2, cap2, e, _⟩ := hf.slen (x := .ints k xs) rfl; rw [e] at q0; injection q0 with _ e2 _; omega
          | strs xs => obtain ⟨h1, b2, cap2, e, _⟩ := hf.slen (x := .strs xs) rfl; rw [e] at q0; injection q0 with _ e2 _; omega
          | rows xs => obtain ⟨h1, b2, cap2, e, _⟩ := hf.slen (x := .rows xs) rfl; rw [e] at q0; injection q0 with _ e2 _; omega
          | int k z => have e : G.H τ = .int k z := hf; rw [e] at q0; cases q0
          | bool z => have e : G.H τ = .bool z := hf; rw [e] at q0; cases q0
          | str z => have e : G.H τ = .string z := hf; rw [e] at q0; cases q0
          | arr k z xs => have e := hf.1; rw [e] at q0; cases q0
      omega
    simp only [lenOf, Runs] at h
    split at h
    · exact h.elim
    · rename_i hne
      refine (key ?_ h).imp fun m' hm' => ?_
      · cases hs : s.get (.tok τ) with
        | v x => exact absurd hs (hne x)
        | t iv c => rfl
        | f x => rfl
      · refine ⟨?_, hm'.2⟩
        rcases hm'.1 with ⟨z, h1, _⟩ | ⟨h1, h2⟩
        · cases h1
        · exact .inr ⟨by (intro _ h; cases h), h2⟩
  | ri τ iv j =>
    simp only [lenOf, Runs] at h
    split at h
    · rename_i iv' xss hc
      obtain ⟨hb, h⟩ := h
      have hb' : iv = iv' := by simpa using hb
      subst hb'
      obtain ⟨m, r1, r2⟩ := (hv.2 _ _ hc).2 rfl
      have := ((R.toks τ _ _ hc).inner r1 r2).1.len
      simp only [vints, List.length_map] at this
      exact ⟨_, .inr ⟨by (intro _ h; cases h), this⟩, h⟩
    · exact h.elim
  | _ => exact h.elim
end
end Go.Tm
