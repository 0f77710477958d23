/- The T-machine: the end of a region: what is kept, under new names. -/
import Derived.Test.YtmcldnoofgkidaaTm17
set_option linter.unusedVariables false
set_option linter.unusedSimpArgs false
namespace Go.Tm
open Go.RowKit

section
variable {P : Program} {K : Kf} {E : El} {n : Nat} {G : Gh} {s : St} {a : Act} {w : World} {CR : CRel} {o : Oper} {u : St}

theorem VP.cutw {O : Lbl} {hv v : Value} {x : PV} {lo m : Nat} (h : VP O w hv x) (hw : IsWin hv v lo m) : VP O w v (x.cut lo m) := by
  by_cases hs : (∃ k, x.slen = some k) ∧ x ≠ .nil
  · obtain ⟨⟨k, hk⟩, hne⟩ := hs
    exact h.win ⟨k, hk, hne⟩ hw
  · obtain ⟨b, l, cap, a', e, q1, q2, q3, q4⟩ := hw
    cases x with
    | nil =>
      have h' : hv = .slice none 0 0 := h
      rw [h'] at e
      injection e with e1 e2 e3
      subst e1; subst e2; subst e3
      have : lo = 0 := by omega
      subst this
      have : m = 0 := by omega
      subst this
      rw [q3, q4 (.inr rfl)]
      rfl
    | int k m => have h' : hv = _ := h; rw [h'] at e; cases e
    | bool b => have h' : hv = _ := h; rw [h'] at e; cases e
    | str b => have h' : hv = _ := h; rw [h'] at e; cases e
    | arr k m xs => have h' := h.1; rw [h'] at e; cases e
    | ints k xs => exact absurd ⟨⟨_, rfl⟩, by simp⟩ hs
    | strs xs => exact absurd ⟨⟨_, rfl⟩, by simp⟩ hs
    | rows xs => exact absurd ⟨⟨_, rfl⟩, by simp⟩ hs

/-- A prefix of a row of one's own. -/
theorem SlO.cut {O : Lbl} {lab : Lab} {e : TypeId} {hv v : Value} {cells : List Value} {m : Nat} (h : SlO O w lab e hv cells) (hw : IsWin hv v 0 m) : SlO O w lab e v (cells.take m) := by
  obtain ⟨h1, h2, h3⟩ := IsWin.front h hw
  have e1 : (cells.take m).length = m := by simp; omega
  exact ⟨by rw [e1]; exact h1, h3⟩

theorem VC.cut {O : Lbl} {τ : Nat} {hv v : Value} {c : Ct} {m : Nat} (h : VC E O w τ hv c) (hw : IsWin hv v 0 m) : VC E O w τ v (c.take m) := by
  cases c with
  | ints k xs => have := SlO.cut h hw; simpa [VC, Ct.take, vints, List.map_take] using this
  | strs xs => have := SlO.cut h hw; simpa [VC, Ct.take, vstrs, List.map_take] using this
  | rows b xss =>
    obtain ⟨hs, h1, h2, h3⟩ := h
    refine ⟨hs.take m, h1.cut hw, by simp [h2], fun j h xs hh hx => ?_⟩
    rw [List.getElem?_take] at hh hx
    split at hh
    · rename_i hj; rw [if_pos hj] at hx; exact h3 j h xs hh hx
    · cases hh
  | hole k xss =>
    obtain ⟨hs, h1, h2, h3⟩ := h
    refine ⟨hs.take m, h1.cut hw, by simp [h2], fun j h xs hj hh hx => ?_⟩
    rw [List.getElem?_take] at hh hx
    split at hh
    · rename_i hj'; rw [if_pos hj'] at hx; exact h3 j h xs hj hh hx
    · cases hh

/-- What stands at a place. -/
def LocV (G : Gh) (s : St) (a : Act) (w : World) (l : Loc) (v0 : VV) (val : Value) : Prop :=
  VR G s w val v0 ∧ match l with
    | .slot t => val = a.tmps.getD t undef
    | .box b => G.O (G.B b) = .bx b ∧ ∃ e, w.heap[G.B b]? = some (.cells val.cells e (0, 0))
    | .tok _ => False

theorem Rel.locV (R : Rel E n G s a w) {l : Loc} {v0 : VV} (h : s.get l = .v v0) (hl : ∀ τ, l ≠ .tok τ) : v0 = .un ∨ ∃ val, LocV G s a w l v0 val := by
  cases l with
  | slot t => exact .inr ⟨_, R.slots t v0 h, rfl⟩
  | box b =>
    rcases R.boxes b v0 h with h | ⟨h1, u, e, h2, h3⟩
    · exact .inl h
    · exact .inr ⟨u, h3, h1, e, h2⟩
  | tok τ => exact absurd rfl (hl τ)

/-- How a value that is kept changes its name. -/
inductive CleanV (s : St) (M : Nat → Option (Nat × Bool)) (Hn : Nat → Value) (val : Value) : VV → VV → Prop
  | un (v0) : CleanV s M Hn val v0 .un
  | sc (x) : CleanV s M Hn val (.sc x) (.sc x)
  | pt (b) : CleanV s M Hn val (.pt b) (.pt b)
  | fn (f cs) : CleanV s M Hn val (.fn f cs) (.fn f cs)
  | ud : CleanV s M Hn val .ud .ud
  | nf : CleanV s M Hn val .nf .nf
  | frz (τ x) : s.get (.tok τ) = .f x → CleanV s M Hn val (.rf τ) (.sc x)
  | rf (τ σ iv c) : s.get (.tok τ) = .t iv c → M τ = some (σ, false) → CleanV s M Hn val (.rf τ) (.rf σ)
  | frzw (τ x lo m) : s.get (.tok τ) = .f x → CleanV s M Hn val (.rw τ lo m) (.sc (x.cut lo m))
  | rw (τ σ iv c lo m) : s.get (.tok τ) = .t iv c → M τ = some (σ, false) → CleanV s M Hn val (.rw τ lo m) (.rw σ lo m)
  | cut (τ σ iv c m) : s.get (.tok τ) = .t iv c → Hn σ = val → CleanV s M Hn val (.rw τ 0 m) (.rf σ)
  | ri (τ σ iv c j) : s.get (.tok τ) = .t iv c → M τ = some (σ, false) → CleanV s M Hn val (.ri τ iv j) (.ri σ 0 j)

def cleanO (O : Lbl) (M : Nat → Option (Nat × Bool)) : Lbl := fun g => match O g with
  | .ow τ p => match M τ with
    | some (σ, _) => .ow σ p
    | none => .no
  | l => l

theorem Rel.clean (R : Rel E n G s a w) {s' : St} (M : Nat → Option (Nat × Bool)) (Hn : Nat → Value) (hinj : ∀ τ τ' σ b b', M τ = some (σ, b) → M τ' = some (σ, b') → τ = τ')
    (hH : ∀ τ σ, M τ = some (σ, false) → Hn σ = G.H τ)
    (hloc : ∀ l v, (∀ τ, l ≠ .tok τ) → s'.get l = .v v → v = .un ∨ ∃ v0 val, LocV G s a w l v0 val ∧ CleanV s M Hn val v0 v)
    (htok : ∀ σ iv c, s'.get (.tok σ) = .t iv c → iv = 0 ∧ ∃ τ b iv0 c0, M τ = some (σ, b) ∧ s.get (.tok τ) = .t iv0 c0 ∧ (b = false → c = c0) ∧ (b = true → ∃ m, c = c0.take m ∧ IsWin (G.H τ) (Hn σ) 0 m))
    (hfro : ∀ σ x, s'.get (.tok σ) ≠ .f x) : ∃ G', Rel E n G' s' a w ∧ Fr G.O w G'.O w := by
  have him : ∀ g, G.O g = .im → cleanO G.O M g = .im ∧ w.heap[g]? = w.heap[g]? := fun g h => ⟨by unfold cleanO; rw [h], rfl⟩
  have how : ∀ τ σ b, M τ = some (σ, b) → ∀ g p, G.O g = .ow τ p → g < w.heap.size → cleanO G.O M g = .ow σ p ∧ w.heap[g]? = w.heap[g]? := fun τ σ b h g p hg _ => ⟨by unfold cleanO; rw [hg]; simp only [h], rfl⟩
  let G' : Gh := { O := cleanO G.O M, H := Hn, B := G.B }
  have hval : ∀ val v0 v, VR G s w val v0 → CleanV s M Hn val v0 v → VR G' s' w val v := by
    intro val v0 v h hc
    cases hc with
    | un => exact trivial
    | sc x => exact VP.keep (x := x) h him
    | pt b => exact h
    | fn f cs => exact h
    | ud => exact h
    | nf => exact h
    | frz τ x hx =>
      have e : val = G.H τ := h.2 (by rw [hx]; rfl)
      have := R.froz τ x hx
      rw [← e] at this
      exact VP.keep this him
    | rf τ σ iv c hx hM =>
      have e : val = G.H τ := h.2 (by rw [hx]; rfl)
      exact ⟨h.1, fun _ => by rw [e]; exact (hH τ σ hM).symm⟩
    | frzw τ x lo m hx =>
      have e := h.2 (by rw [hx]; rfl)
      exact VP.keep ((R.froz τ x hx).cutw e) him
    | rw τ σ iv c lo m hx hM =>
      have e := h.2 (by rw [hx]; rfl)
      exact ⟨h.1, fun _ => by show IsWin (Hn σ) val lo m; rw [hH τ σ hM]; exact e⟩
    | cut τ σ iv c m hx hM =>
      exact ⟨h.1, fun _ => hM.symm⟩
    | ri τ σ iv c j hx hM =>
      refine ⟨h.1, fun iv' c' hc' => ⟨Nat.zero_le _, fun _ => ?_⟩⟩
      obtain ⟨_, τ', b, iv0, c0, t1, t2, t3, t4⟩ := htok σ iv' c' hc'
      have := hinj τ τ' σ _ _ hM t1
      subst this
      rw [hM] at t1
      injection t1 with t1
      injection t1 with _ t1
      subst t1
      rw [hx] at t2
      injection t2 with e1 e2
      subst e1; subst e2
      rw [t3 rfl]
      obtain ⟨q, q1, q2⟩ := (h.2 _ _ hx).2 rfl
      exact ⟨q, q1, by show cellOf w (Hn σ) j = _; rw [hH τ σ hM]; exact q2⟩
  refine ⟨G', R.step R.size R.defers him (fun t v hv => ?_) (fun b v hv => ?_) (fun σ iv c hc => ?_) (fun σ x hx => absurd hx (hfro σ x)) (fun g hg => ?_), ⟨rfl, rfl, rfl, Nat.le_refl _, him, fun g _ h => ⟨by show cleanO G.O M g = _; unfold cleanO; rw [h], rfl⟩⟩⟩
  · refine .inr ?_
    rcases hloc (.slot t) v (by simp) hv with h | ⟨v0, val, ⟨h1, h2⟩, h3⟩
    · subst h; exact trivial
    · have h2' : val = a.tmps.getD t undef := h2
      rw [← h2']
      exact hval _ _ _ h1 h3
  · rcases hloc (.box b) v (by simp) hv with h | ⟨v0, val, ⟨h1, h2, e, h4⟩, h3⟩
    · exact .inl h
    · refine .inr (.inr ⟨?_, val, e, h4, hval _ _ _ h1 h3⟩)
      show cleanO G.O M (G.B b) = _
      unfold cleanO; rw [h2]
  · refine .inr ?_
    obtain ⟨_, τ, b, iv0, c0, t1, t2, t3, t4⟩ := htok σ iv c hc
    have hV := (R.toks τ iv0 c0 t2).move (τ' := σ) him (how τ σ b t1)
    show VC E (cleanO G.O M) w σ (Hn σ) c
    cases b with
    | false => rw [hH τ σ t1, t3 rfl]; exact hV
    | true =>
      obtain ⟨m, e1, e2⟩ := t4 rfl
      rw [e1]
      exact hV.cut e2
  · have h := R.fresh g hg
    show cleanO G.O M g = _
    unfold cleanO; rw [h]
end
end Go.Tm
