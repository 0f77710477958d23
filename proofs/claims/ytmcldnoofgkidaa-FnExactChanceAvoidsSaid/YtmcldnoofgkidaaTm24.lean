/- The T-machine: calls: what is handed over. -/
import Derived.Test.YtmcldnoofgkidaaTm23
set_option linter.unusedVariables false
set_option linter.unusedSimpArgs false
namespace Go.Tm
open Go.RowKit

theorem addKeys_spec : ∀ (bs ks : List Key), ∃ ex, addKeys ks bs = ks ++ ex ∧ (ks.Nodup → (ks ++ ex).Nodup) ∧ ∀ b ∈ bs, b ∈ ks ++ ex
  | [], ks => ⟨[], by simp [addKeys], by simp, by simp⟩
  | b :: bs, ks => by
    cases hb : Key.has b ks with
    | true =>
      obtain ⟨ex, h1, h2, h3⟩ := addKeys_spec bs ks
      refine ⟨ex, by simp only [addKeys, hb, cond_true]; exact h1, h2, fun x hx => ?_⟩
      rcases List.mem_cons.1 hx with rfl | hx
      · exact List.mem_append_left _ (Key.has_iff.1 hb)
      · exact h3 x hx
    | false =>
      obtain ⟨ex, h1, h2, h3⟩ := addKeys_spec bs (ks ++ [b])
      have hn : b ∉ ks := fun h => by rw [Key.has_iff.2 h] at hb; cases hb
      refine ⟨b :: ex, by simp only [addKeys, hb, cond_false]; rw [h1]; simp, fun hd => ?_, fun x hx => ?_⟩
      · have := h2 (by rw [List.nodup_append]; exact ⟨hd, by simp, fun y hy z hz => by simp at hz; subst hz; intro e; subst e; exact hn hy⟩)
        simpa using this
      · rcases List.mem_cons.1 hx with rfl | hx
        · simp
        · have := h3 x hx
          simpa using this

theorem keyIdx_spec {b : Key} : ∀ (ks : List Key) (i : Nat), b ∈ ks → ∃ j, keyIdx b ks i = i + j ∧ ks[j]? = some b
  | [], i, h => by simp at h
  | c :: ks, i, h => by
    by_cases e : b = c
    · subst e
      exact ⟨0, by simp [keyIdx, Key.beq_iff.2 rfl], rfl⟩
    · have hb : Key.beq b c = false := by rw [Bool.eq_false_iff]; intro h; exact e (Key.beq_iff.1 h)
      rcases List.mem_cons.1 h with h | h
      · exact absurd h e
      · obtain ⟨j, h1, h2⟩ := keyIdx_spec ks (i + 1) h
        exact ⟨j + 1, by simp only [keyIdx, hb, cond_false]; omega, by simpa using h2⟩

section
variable {P : Program} {K : Kf} {E : El} {n : Nat} {G : Gh} {s : St} {a : Act} {w : World} {CR : CRel} {o : Oper} {u : St}

/-- The boxes that are passed. -/
theorem runs_gather {k : List Key → List VV → Rd} : ∀ (m i : Nat) (ks : List Key) (acc : List VV), Runs CR s (gather m i ks acc k) u → acc.length = i → i ≤ ks.length → ks.Nodup →
    (∀ (j : Nat) b v, ks[j]? = some b → acc[j]? = some v → s.get (.box b) = .v v ∧ ∀ x ∈ v.keys, x ∈ ks) →
    ∃ ks' bs, Runs CR s (k ks' bs) u ∧ bs.length = ks'.length ∧ ks'.Nodup ∧ (∀ x ∈ ks, x ∈ ks') ∧ bs.length ≤ i + m ∧ ∀ (j : Nat) b v, ks'[j]? = some b → bs[j]? = some v → s.get (.box b) = .v v ∧ ∀ x ∈ v.keys, x ∈ ks' := by
  intro m
  induction m with
  | zero => intro i ks acc h; exact h.elim
  | succ m ih =>
    intro i ks acc h hl hi hd hk
    unfold gather at h
    split at h
    · rename_i hn
      have : ks.length ≤ i := by rw [List.getElem?_eq_none_iff] at hn; exact hn
      exact ⟨ks, acc, h, by omega, hd, fun _ h => h, by omega, hk⟩
    · rename_i b hb
      simp only [Runs] at h
      split at h
      · rename_i v hv
        obtain ⟨ex, e1, e2, e3⟩ := addKeys_spec v.keys ks
        rw [e1] at h
        have hlt : i < ks.length := (List.getElem?_eq_some_iff.1 hb).1
        obtain ⟨ks', bs, r1, r2, r3, r4, r4', r5⟩ := ih (i + 1) (ks ++ ex) (acc ++ [v]) h (by simp [hl]) (by simp; omega) (e2 hd) (fun j b' v' hj hv' => by
          by_cases hji : j < i
          · rw [List.getElem?_append_left (by omega)] at hj hv'
            obtain ⟨a1, a2⟩ := hk j b' v' hj hv'
            exact ⟨a1, fun x hx => List.mem_append_left _ (a2 x hx)⟩
          · have hje : j = i := by
              have := (List.getElem?_eq_some_iff.1 hv').1
              simp at this; omega
            subst hje
            rw [List.getElem?_append_left hlt, hb] at hj
            injection hj with hj
            subst hj
            rw [List.getElem?_append_right (by omega), hl] at hv'
            simp at hv'
            subst hv'
            exact ⟨hv, e3⟩)
        exact ⟨ks', bs, r1, r2, r3, fun x hx => r4 x (List.mem_append_left _ hx), by omega, r5⟩
      · exact h.elim

/-- One argument. -/
def ArgOK (G : Gh) (s : St) (ks : List Key) (w : World) (gone : List Nat) (b : Bool) (val : Value) (v : VV) (c : CV) : Prop :=
  (∃ f cs, v = .fn f cs ∧ c = .fn f (cs.map fun b => keyIdx b ks 0)) ∨ (∃ b, v = .pt b ∧ c = .pt (keyIdx b ks 0)) ∨ (v = .nf ∧ c = .nf) ∨ (∃ x, c = .sc x ∧ (b = true → v.toks = []) ∧ ∀ O', Lends G.O O' v.toks → VP O' w val x) ∨
  (∃ τ iv d, v = .rf τ ∧ s.get (.tok τ) = .t iv d ∧ c = .ow d ∧ τ ∈ gone) ∨ (∃ τ n iv d, v = .rw τ 0 n ∧ s.get (.tok τ) = .t iv d ∧ c = .ow (d.take n) ∧ τ ∈ gone)

theorem ArgOK.mono {ks : List Key} {g g' : List Nat} {b : Bool} {val : Value} {v : VV} {c : CV} (h : ArgOK G s ks w g b val v c) (hs : ∀ τ ∈ g, τ ∈ g') : ArgOK G s ks w g' b val v c := by
  rcases h with h | h | h | h | ⟨τ, iv, d, h1, h2, h3, h4⟩ | ⟨τ, n, iv, d, h1, h2, h3, h4⟩
  · exact .inl h
  · exact .inr (.inl h)
  · exact .inr (.inr (.inl h))
  · exact .inr (.inr (.inr (.inl h)))
  · exact .inr (.inr (.inr (.inr (.inl ⟨τ, iv, d, h1, h2, h3, hs τ h4⟩))))
  · exact .inr (.inr (.inr (.inr (.inr ⟨τ, n, iv, d, h1, h2, h3, hs τ h4⟩))))

theorem runs_argsCV (R : Rel E n G s a w) (ks : List Key) (mv : Nat → Bool) : ∀ (vs : List VV) (i : Nat) (vals : List Value) (k : List CV → List Nat → Rd), vals.length = vs.length → (∀ (j : Nat) val v, vals[j]? = some val → vs[j]? = some v → VR G s w val v) →
    Runs CR s (argsCV ks mv i vs k) u → ∃ as g, as.length = vs.length ∧ Runs CR s (k as g) u ∧ g.Nodup ∧ (∀ (j : Nat) val v c, vals[j]? = some val → vs[j]? = some v → as[j]? = some c → ArgOK G s ks w g (mv (i + j)) val v c) ∧
      (∀ (j : Nat) v, vs[j]? = some v → mv (i + j) = true → ∀ τ, v.tokOf = some τ → τ ∈ g) ∧ (∀ τ ∈ g, (∃ iv d, s.get (.tok τ) = .t iv d) ∧ ∃ (j : Nat) (v : VV), vs[j]? = some v ∧ v.tokOf = some τ ∧ mv (i + j) = true ∧ ∀ (j' : Nat) (v' : VV), vs[j']? = some v' → v'.tokOf = some τ → mv (i + j') = true → j' = j) := by
  intro vs
  induction vs with
  | nil => intro i vals k _ _ h; exact ⟨[], [], rfl, h, List.nodup_nil, fun j val v c _ h => by simp at h, fun j v h => by simp at h, fun τ h => by simp at h⟩
  | cons v vs ih =>
    intro i vals k hl hv h
    cases vals with
    | nil => simp at hl
    | cons val vals =>
      have hl' : vals.length = vs.length := by simpa using hl
      have hv' : ∀ (j : Nat) val v, vals[j]? = some val → vs[j]? = some v → VR G s w val v := fun j val' v' h1 h2 => hv (j + 1) val' v' (by simpa using h1) (by simpa using h2)
      have h0 : VR G s w val v := hv 0 val v rfl rfl
      have fin : ∀ (c : CV), (∀ g, ArgOK G s ks w g (mv i) val v c) → (mv i = true → v.tokOf = none) → Runs CR s (argsCV ks mv (i + 1) vs fun r g => k (c :: r) g) u →
          ∃ as g, as.length = (v :: vs).length ∧ Runs CR s (k as g) u ∧ g.Nodup ∧ (∀ (j : Nat) val' v' c', (val :: vals)[j]? = some val' → (v :: vs)[j]? = some v' → as[j]? = some c' → ArgOK G s ks w g (mv (i + j)) val' v' c') ∧
      (∀ (j : Nat) v', (v :: vs)[j]? = some v' → mv (i + j) = true → ∀ τ, v'.tokOf = some τ → τ ∈ g) ∧ (∀ τ ∈ g, (∃ iv d, s.get (.tok τ) = .t iv d) ∧ ∃ (j : Nat) (v' : VV), (v :: vs)[j]? = some v' ∧ v'.tokOf = some τ ∧ mv (i + j) = true ∧ ∀ (j' : Nat) (v'' : VV), (v :: vs)[j']? = some v'' → v''.tokOf = some τ → mv (i + j') = true → j' = j) := by
        intro c hc hno h
        obtain ⟨as, g, a1, a2, a3, a4, a5, a6⟩ := ih (i + 1) vals _ hl' hv' h
        refine ⟨c :: as, g, by simp [a1], a2, a3, fun j val' v' c' h1 h2 h3 => ?_, fun j v' hj hm τ hτ => ?_, fun τ hτ => ?_⟩
        · cases j with
          | zero => simp at h1 h2 h3; subst h1; subst h2; subst h3; exact hc g
          | succ j => rw [show i + (j + 1) = i + 1 + j by omega]; exact a4 j val' v' c' (by simpa using h1) (by simpa using h2) (by simpa using h3)
        · cases j with
          | zero => simp at hj; subst hj; rw [hno hm] at hτ; cases hτ
          | succ j => exact a5 j v' (by simpa using hj) (by rw [show i + 1 + j = i + (j + 1) by omega]; exact hm) τ hτ
        · obtain ⟨b0, j, v', b1, b2, b3, b4⟩ := a6 τ hτ
          refine ⟨b0, j + 1, v', by simpa using b1, b2, by rw [show i + (j + 1) = i + 1 + j by omega]; exact b3, fun j' v'' h1 h2 h3 => ?_⟩
          cases j' with
          | zero => simp at h1; subst h1; rw [hno h3] at h2; cases h2
          | succ j' => rw [b4 j' v'' (by simpa using h1) h2 (by rw [show i + 1 + j' = i + (j' + 1) by omega]; exact h3)]
      have pv : mv i = false → Runs CR s (pvOf v fun x => argsCV ks mv (i + 1) vs fun r g => k (.sc x :: r) g) u →
          ∃ as g, as.length = (v :: vs).length ∧ Runs CR s (k as g) u ∧ g.Nodup ∧ (∀ (j : Nat) val' v' c', (val :: vals)[j]? = some val' → (v :: vs)[j]? = some v' → as[j]? = some c' → ArgOK G s ks w g (mv (i + j)) val' v' c') ∧
      (∀ (j : Nat) v', (v :: vs)[j]? = some v' → mv (i + j) = true → ∀ τ, v'.tokOf = some τ → τ ∈ g) ∧ (∀ τ ∈ g, (∃ iv d, s.get (.tok τ) = .t iv d) ∧ ∃ (j : Nat) (v' : VV), (v :: vs)[j]? = some v' ∧ v'.tokOf = some τ ∧ mv (i + j) = true ∧ ∀ (j' : Nat) (v'' : VV), (v :: vs)[j']? = some v'' → v''.tokOf = some τ → mv (i + j') = true → j' = j) := by
        intro hm h
        obtain ⟨x, hx, h⟩ := runs_pvOf R h0 h
        exact fin (.sc x) (fun g => .inr (.inr (.inr (.inl ⟨x, rfl, fun e => (by rw [hm] at e; cases e), hx⟩)))) (fun e => by rw [hm] at e; cases e) h
      have own : ∀ (τ iv : Nat) (d d' : Ct), mv i = true → s.get (.tok τ) = .t iv d → v.tokOf = some τ → (∀ g, τ ∈ g → ArgOK G s ks w g (mv i) val v (.ow d')) →
          Runs CR s (argsCV ks mv (i + 1) vs fun r g => .guard (!natHas τ g) (k (.ow d' :: r) (τ :: g))) u →
          ∃ as g, as.length = (v :: vs).length ∧ Runs CR s (k as g) u ∧ g.Nodup ∧ (∀ (j : Nat) val' v' c', (val :: vals)[j]? = some val' → (v :: vs)[j]? = some v' → as[j]? = some c' → ArgOK G s ks w g (mv (i + j)) val' v' c') ∧
      (∀ (j : Nat) v', (v :: vs)[j]? = some v' → mv (i + j) = true → ∀ τ, v'.tokOf = some τ → τ ∈ g) ∧ (∀ τ ∈ g, (∃ iv d, s.get (.tok τ) = .t iv d) ∧ ∃ (j : Nat) (v' : VV), (v :: vs)[j]? = some v' ∧ v'.tokOf = some τ ∧ mv (i + j) = true ∧ ∀ (j' : Nat) (v'' : VV), (v :: vs)[j']? = some v'' → v''.tokOf = some τ → mv (i + j') = true → j' = j) := by
        intro τ iv d d' hm hc ht hok h
        obtain ⟨as, g, a1, ⟨hn, a2⟩, a3, a4, a5, a6⟩ := ih (i + 1) vals _ hl' hv' h
        have hng : τ ∉ g := fun hg => by rw [natHas_iff.2 hg] at hn; cases hn
        have hnone : ∀ (j : Nat) v', vs[j]? = some v' → v'.tokOf = some τ → mv (i + (j + 1)) = true → False := fun j v' h1 h2 h3 =>
          hng (a5 j v' h1 (by rw [show i + 1 + j = i + (j + 1) by omega]; exact h3) τ h2)
        refine ⟨.ow d' :: as, τ :: g, by simp [a1], a2, List.nodup_cons.2 ⟨hng, a3⟩, fun j val' v' c' h1 h2 h3 => ?_, fun j v' hj hm' σ hσ => ?_, fun σ hσ => ?_⟩
        · cases j with
          | zero => simp at h1 h2 h3; subst h1; subst h2; subst h3; exact hok _ (by simp)
          | succ j => rw [show i + (j + 1) = i + 1 + j by omega]; exact (a4 j val' v' c' (by simpa using h1) (by simpa using h2) (by simpa using h3)).mono fun x hx => List.mem_cons_of_mem _ hx
        · cases j with
          | zero => simp at hj; subst hj; rw [ht] at hσ; injection hσ with hσ; subst hσ; simp
          | succ j => exact List.mem_cons_of_mem _ (a5 j v' (by simpa using hj) (by rw [show i + 1 + j = i + (j + 1) by omega]; exact hm') σ hσ)
        · rcases List.mem_cons.1 hσ with rfl | hσ
          · refine ⟨⟨iv, d, hc⟩, 0, v, rfl, ht, hm, fun j' v'' h1 h2 h3 => ?_⟩
            cases j' with
            | zero => rfl
            | succ j' => exact (hnone j' v'' (by simpa using h1) h2 h3).elim
          · obtain ⟨b0, j, v', b1, b2, b3, b4⟩ := a6 σ hσ
            refine ⟨b0, j + 1, v', by simpa using b1, b2, by rw [show i + (j + 1) = i + 1 + j by omega]; exact b3, fun j' v'' h1 h2 h3 => ?_⟩
            cases j' with
            | zero =>
              simp at h1; subst h1
              rw [ht] at h2; injection h2 with h2
              subst h2; exact absurd hσ hng
            | succ j' => rw [b4 j' v'' (by simpa using h1) h2 (by rw [show i + 1 + j' = i + (j' + 1) by omega]; exact h3)]
      unfold argsCV at h
      cases hm : mv i with
      | true =>
        rw [hm] at h
        simp only [cond_true] at h
        split at h
        · rename_i τ
          simp only [Runs] at h
          split at h
          · exact h.elim
          · rename_i iv d _ hc
            exact own τ iv d d hm hc rfl (fun g hg => .inr (.inr (.inr (.inr (.inl ⟨τ, iv, d, rfl, hc, rfl, hg⟩))))) h
          · exact h.elim
        · rename_i τ lo m
          simp only [Runs] at h
          split at h
          · exact h.elim
          · rename_i iv d _ hc
            by_cases hlo : lo = 0
            · subst hlo
              refine own τ iv d (d.take m) hm hc rfl (fun g hg => .inr (.inr (.inr (.inr (.inr ⟨τ, m, iv, d, rfl, hc, rfl, hg⟩))))) ?_
              simpa using h
            · exfalso
              obtain ⟨as, g, a1, ⟨hn, _⟩, _⟩ := ih (i + 1) vals _ hl' hv' h
              simp only [Bool.and_eq_true, Nat.beq_eq] at hn
              exact hlo hn.2
          · exact h.elim
        · exact fin _ (fun g => .inr (.inr (.inr (.inl ⟨.nil, rfl, fun _ => rfl, fun O' _ => h0⟩)))) (fun _ => rfl) h
        · exact h.elim
      | false =>
        rw [hm] at h
        simp only [cond_false] at h
        have hf : mv i = true → v.tokOf = none := fun e => by rw [hm] at e; cases e
        cases v with
        | fn f cs => exact fin _ (fun g => .inl ⟨f, cs, rfl, rfl⟩) hf h
        | pt b => exact fin _ (fun g => .inr (.inl ⟨b, rfl, rfl⟩)) hf h
        | nf => exact fin _ (fun g => .inr (.inr (.inl ⟨rfl, rfl⟩))) hf h
        | _ => exact pv hm h

/-- One box. -/
def BoxOK (s : St) (ks : List Key) (g : List Nat) (v : VV) (c : CV) : Prop :=
  (∃ f cs, v = .fn f cs ∧ c = .fn f (cs.map fun b => keyIdx b ks 0)) ∨ (∃ x, v = .sc x ∧ c = .sc x) ∨ (v = .nf ∧ c = .nf) ∨
  (∃ τ iv d, v = .rf τ ∧ s.get (.tok τ) = .t iv d ∧ (∀ k xss, d ≠ .hole k xss) ∧ c = .ow d ∧ τ ∈ g) ∨ (∃ τ x, v = .rf τ ∧ s.get (.tok τ) = .f x ∧ c = .sc x)

theorem runs_boxesCV (ks : List Key) : ∀ (vs : List VV) (k : List CV → List Nat → Rd), Runs CR s (boxesCV ks vs k) u →
    ∃ bx g, bx.length = vs.length ∧ Runs CR s (k bx g) u ∧ g.Nodup ∧ (∀ (j : Nat) v c, vs[j]? = some v → bx[j]? = some c → BoxOK s ks g v c) ∧
      (∀ τ ∈ g, (∃ iv d, s.get (.tok τ) = .t iv d) ∧ ∃ j : Nat, vs[j]? = some (VV.rf τ) ∧ ∀ j' : Nat, vs[j']? = some (VV.rf τ) → j' = j) := by
  intro vs
  induction vs with
  | nil => intro k h; exact ⟨[], [], rfl, h, List.nodup_nil, fun j v c h => by simp at h, fun τ h => by simp at h⟩
  | cons v vs ih =>
    intro k h
    have fin : ∀ (c : CV), (∀ g, BoxOK s ks g v c) → (∀ τ ∈ ([] : List Nat), v ≠ VV.rf τ) ∧ (∀ τ iv d, s.get (.tok τ) = .t iv d → v ≠ VV.rf τ) → Runs CR s (boxesCV ks vs fun r g => k (c :: r) g) u →
        ∃ bx g, bx.length = (v :: vs).length ∧ Runs CR s (k bx g) u ∧ g.Nodup ∧ (∀ (j : Nat) v' c, (v :: vs)[j]? = some v' → bx[j]? = some c → BoxOK s ks g v' c) ∧
          (∀ τ ∈ g, (∃ iv d, s.get (.tok τ) = .t iv d) ∧ ∃ j : Nat, (v :: vs)[j]? = some (VV.rf τ) ∧ ∀ j' : Nat, (v :: vs)[j']? = some (VV.rf τ) → j' = j) := by
      intro c hc hne h
      obtain ⟨bx, g, a1, a2, a3, a4, a5⟩ := ih _ h
      refine ⟨c :: bx, g, by simp [a1], a2, a3, fun j v' c' h1 h2 => ?_, fun τ hτ => ?_⟩
      · cases j with
        | zero => simp at h1 h2; subst h1; subst h2; exact hc g
        | succ j => exact a4 j v' c' (by simpa using h1) (by simpa using h2)
      · obtain ⟨⟨iv, d, b0⟩, j, b1, b2⟩ := a5 τ hτ
        refine ⟨⟨iv, d, b0⟩, j + 1, by simpa using b1, fun j' h' => ?_⟩
        cases j' with
        | zero => simp at h'; exact absurd h' (hne.2 τ iv d b0)
        | succ j' => rw [b2 j' (by simpa using h')]
    cases v with
    | fn f cs => exact fin _ (fun g => .inl ⟨f, cs, rfl, rfl⟩) ⟨by simp, by simp⟩ h
    | sc x => exact fin _ (fun g => .inr (.inl ⟨x, rfl, rfl⟩)) (by simp) h
    | nf => exact fin _ (fun g => .inr (.inr (.inl ⟨rfl, rfl⟩))) (by simp) h
    | rf τ =>
      simp only [boxesCV, Runs] at h
      split at h
      · exact h.elim
      · rename_i iv d hnh hc
        obtain ⟨bx, g, a1, a2, a3, a4, a5⟩ := ih _ h
        obtain ⟨hn, a2⟩ := a2
        have hn' : τ ∉ g := fun hm => by rw [← natHas_iff] at hm; rw [hm] at hn; cases hn
        have hno : ∀ j' : Nat, vs[j']? ≠ some (VV.rf τ) := by
          intro j' hj
          have hlt : j' < bx.length := by rw [a1]; exact (List.getElem?_eq_some_iff.1 hj).1
          rcases a4 j' _ _ hj (List.getElem?_eq_getElem hlt) with ⟨_, _, e, _⟩ | ⟨_, e, _⟩ | ⟨e, _⟩ | ⟨τ', _, _, e, _, _, _, hg⟩ | ⟨τ', x, e, hx, _⟩
          · cases e
          · cases e
          · cases e
          · injection e with e; subst e; exact hn' hg
          · injection e with e; subst e; rw [hc] at hx; cases hx
        refine ⟨.ow d :: bx, τ :: g, by simp [a1], a2, List.nodup_cons.2 ⟨hn', a3⟩, fun j v' c h1 h2 => ?_, fun σ hσ => ?_⟩
        · cases j with
          | zero => simp at h1 h2; subst h1; subst h2; exact .inr (.inr (.inr (.inl ⟨τ, iv, d, rfl, hc, fun k xss e => hnh k xss e, rfl, by simp⟩)))
          | succ j =>
            rcases a4 j v' c (by simpa using h1) (by simpa using h2) with e | e | e | ⟨τ', iv', d', e1, e2, e3, e4, e5⟩ | e
            · exact .inl e
            · exact .inr (.inl e)
            · exact .inr (.inr (.inl e))
            · exact .inr (.inr (.inr (.inl ⟨τ', iv', d', e1, e2, e3, e4, by simp [e5]⟩)))
            · exact .inr (.inr (.inr (.inr e)))
        · rcases List.mem_cons.1 hσ with rfl | hσ
          · refine ⟨⟨iv, d, hc⟩, 0, rfl, fun j' h' => ?_⟩
            cases j' with
            | zero => rfl
            | succ j' => exact absurd (by simpa using h') (hno j')
          · obtain ⟨b0, j, b1, b2⟩ := a5 σ hσ
            refine ⟨b0, j + 1, by simpa using b1, fun j' h' => ?_⟩
            cases j' with
            | zero => simp at h'; subst h'; exact absurd b1 (hno j)
            | succ j' => rw [b2 j' (by simpa using h')]
      · rename_i x hx
        exact fin (.sc x) (fun g => .inr (.inr (.inr (.inr ⟨τ, x, rfl, hx, rfl⟩)))) ⟨by simp, fun τ' iv d h' e => by injection e with e; subst e; rw [hx] at h'; cases h'⟩ h
      · exact h.elim
    | _ => exact h.elim
end
end Go.Tm
