/- The T-machine: 'clean' does as Rel.clean asks. -/
import Derived.Test.YtmcldnoofgkidaaTm18
set_option linter.unusedVariables false
set_option linter.unusedSimpArgs false
namespace Go.Tm
open Go.RowKit

structure NewT where
  τ : Nat
  σ : Nat
  b : Bool
  h : Value

section
variable {P : Program} {K : Kf} {E : El} {n : Nat} {G : Gh} {s : St} {a : Act} {w : World} {CR : CRel} {o : Oper} {u : St}

def TokAt (s : St) (ls : List Loc) (τ : Nat) : Prop := ∃ l ∈ ls, ∃ v, s.get l = .v v ∧ v.tokOf = some τ

theorem refs_append (τ : Nat) (x y : List Loc) : refs s τ (x ++ y) = refs s τ x + refs s τ y := by
  induction x with
  | nil => simp [refs]
  | cons l x ih =>
    simp only [List.cons_append, refs]
    split
    · split
      · rename_i σ _
        cases Nat.beq σ τ <;> simp only [cond_true, cond_false, ih] <;> omega
      · exact ih
    · exact ih

theorem refs_pos {τ : Nat} {ls : List Loc} (h : TokAt s ls τ) : 1 ≤ refs s τ ls := by
  induction ls with
  | nil => obtain ⟨l, h, _⟩ := h; simp at h
  | cons l ls ih =>
    obtain ⟨l', hl, v, h1, h2⟩ := h
    rcases List.mem_cons.1 hl with rfl | hl
    · simp only [refs, h1, h2, Nat.beq_refl, cond_true]; omega
    · have := ih ⟨l', hl, v, h1, h2⟩
      simp only [refs]
      split
      · split
        · rename_i σ _
          cases Nat.beq σ τ <;> simp only [cond_true, cond_false] <;> omega
        · exact this
      · exact this

def GoodTok (G : Gh) (s : St) (N : List NewT) (σ iv : Nat) (c : Ct) : Prop :=
  iv = 0 ∧ ∃ x ∈ N, x.σ = σ ∧ ∃ iv0 c0, s.get (.tok x.τ) = .t iv0 c0 ∧ (x.b = false → c = c0) ∧ (x.b = true → ∃ m, c = c0.take m ∧ IsWin (G.H x.τ) x.h 0 m)

structure Good (G : Gh) (s : St) (a : Act) (w : World) (M : Nat → Option (Nat × Bool)) (Hn : Nat → Value) (N : List NewT) (out : St) : Prop where
  loc : ∀ l v, (∀ τ, l ≠ .tok τ) → out.get l = .v v → v = .un ∨ ∃ v0 val, LocV G s a w l v0 val ∧ CleanV s M Hn val v0 v
  tok : ∀ σ iv c, out.get (.tok σ) = .t iv c → GoodTok G s N σ iv c
  fro : ∀ σ x, out.get (.tok σ) ≠ .f x

theorem Good.val {M : Nat → Option (Nat × Bool)} {Hn : Nat → Value} {N : List NewT} {out : St} (g : Good G s a w M Hn N out) {l : Loc} {v : VV} (hl : ∀ τ, l ≠ .tok τ)
    (h : v = .un ∨ ∃ v0 val, LocV G s a w l v0 val ∧ CleanV s M Hn val v0 v) : Good G s a w M Hn N ((l, .v v) :: out) := by
  refine ⟨fun l' v' hl' h' => ?_, fun σ iv c h' => ?_, fun σ x h' => ?_⟩
  · rw [get_cons] at h'
    by_cases e : l = l'
    · subst e; rw [if_pos rfl] at h'; injection h' with h'; subst h'; exact h
    · rw [if_neg e] at h'; exact g.loc l' v' hl' h'
  · rw [get_cons, if_neg (hl σ)] at h'; exact g.tok σ iv c h'
  · rw [get_cons, if_neg (hl σ)] at h'; exact g.fro σ x h'

theorem Good.newt {M : Nat → Option (Nat × Bool)} {Hn : Nat → Value} {N : List NewT} {out : St} (g : Good G s a w M Hn N out) (x : NewT) {c : Ct} {iv0 : Nat} {c0 : Ct}
    (h1 : s.get (.tok x.τ) = .t iv0 c0) (h2 : x.b = false → c = c0) (h3 : x.b = true → ∃ m, c = c0.take m ∧ IsWin (G.H x.τ) x.h 0 m) : Good G s a w M Hn (x :: N) ((.tok x.σ, .t 0 c) :: out) := by
  refine ⟨fun l' v' hl' h' => ?_, fun σ iv c' h' => ?_, fun σ y h' => ?_⟩
  · rw [get_cons, if_neg (fun e => hl' _ e.symm)] at h'; exact g.loc l' v' hl' h'
  · rw [get_cons] at h'
    by_cases e : Loc.tok x.σ = .tok σ
    · rw [if_pos e] at h'
      injection h' with e1 e2
      injection e with e
      exact ⟨e1.symm, x, by simp, e, iv0, c0, h1, fun hb => by rw [← e2]; exact h2 hb, fun hb => by rw [← e2]; exact h3 hb⟩
    · rw [if_neg e] at h'
      obtain ⟨t1, y, t2, t3⟩ := g.tok σ iv c' h'
      exact ⟨t1, y, by simp [t2], t3⟩
  · rw [get_cons] at h'
    split at h'
    · cases h'
    · exact g.fro σ y h'

theorem look_cons (τ τ' σ : Nat) (m : List (Nat × Nat)) : look τ' ((τ, σ) :: m) = if τ = τ' then some σ else look τ' m := by
  simp only [look]
  by_cases e : τ = τ'
  · subst e; simp
  · have : Nat.beq τ τ' = false := by rw [Bool.eq_false_iff]; intro h; rw [Nat.beq_eq] at h; exact e h
    rw [this, if_neg e]; rfl

/-- What is asked of the new names. -/
structure NOk (G : Gh) (s : St) (p : Nat) (m : List (Nat × Nat)) (ls : List Loc) (N : List NewT) : Prop where
  fresh : ∀ x ∈ N, look x.τ m = none ∧ p < x.σ ∧ TokAt s ls x.τ
  uniq : ∀ x ∈ N, ∀ y ∈ N, x.τ = y.τ ∨ x.σ = y.σ → x = y
  hdr : ∀ x ∈ N, x.b = false → x.h = G.H x.τ

def Ext (M : Nat → Option (Nat × Bool)) (Hn : Nat → Value) (m : List (Nat × Nat)) (N : List NewT) : Prop :=
  (∀ x ∈ N, M x.τ = some (x.σ, x.b) ∧ Hn x.σ = x.h) ∧ ∀ τ σ, look τ m = some σ → M τ = some (σ, false)

theorem NOk.weak {p q : Nat} {m : List (Nat × Nat)} {l : Loc} {ls : List Loc} {N : List NewT} (h : NOk G s q m ls N) (hp : p < q) : NOk G s p m (l :: ls) N :=
  ⟨fun x hx => by obtain ⟨h1, h2, l', h3, h4⟩ := h.fresh x hx; exact ⟨h1, by omega, l', by simp [h3], h4⟩, h.uniq, h.hdr⟩

theorem NOk.cons {p : Nat} {m m' : List (Nat × Nat)} {l : Loc} {ls : List Loc} {N : List NewT} {x : NewT} (h : NOk G s x.σ m' ls N) (hp : p < x.σ) (hm : ∀ τ, look τ m' = none → look τ m = none) (hx : look x.τ m = none)
    (hl : ∃ v, s.get l = .v v ∧ v.tokOf = some x.τ) (hne : ∀ y ∈ N, y.τ ≠ x.τ) (hh : x.b = false → x.h = G.H x.τ) : NOk G s p m (l :: ls) (x :: N) := by
  refine ⟨fun y hy => ?_, fun y hy z hz e => ?_, fun y hy => ?_⟩
  · rcases List.mem_cons.1 hy with rfl | hy
    · exact ⟨hx, hp, l, by simp, hl⟩
    · obtain ⟨h1, h2, l', h3, h4⟩ := h.fresh y hy
      exact ⟨hm _ h1, by omega, l', by simp [h3], h4⟩
  · rcases List.mem_cons.1 hy with e1 | hy
    · rcases List.mem_cons.1 hz with e2 | hz
      · rw [e1, e2]
      · rw [e1] at e
        rcases e with e | e
        · exact absurd e.symm (hne z hz)
        · have := (h.fresh z hz).2.1; omega
    · rcases List.mem_cons.1 hz with e2 | hz
      · rw [e2] at e
        rcases e with e | e
        · exact absurd e (hne y hy)
        · have := (h.fresh y hy).2.1; omega
      · exact h.uniq y hy z hz e
  · rcases List.mem_cons.1 hy with rfl | hy
    · exact hh
    · exact h.hdr y hy

theorem clean_spec (R : Rel E n G s a w) (all : List Loc) : ∀ (ls pre : List Loc) (m : List (Nat × Nat)) (p : Nat), all = pre ++ ls → incNm p ls = true → (∀ τ σ, look τ m = some σ → TokAt s pre τ) →
    ∃ N, NOk G s p m ls N ∧ ∀ M Hn, Ext M Hn m N → Good G s a w M Hn N (clean s all m ls) := by
  intro ls
  induction ls with
  | nil => intro pre m p _ _ _; exact ⟨[], ⟨fun x h => by simp at h, fun x h => by simp at h, fun x h => by simp at h⟩, fun M Hn _ => ⟨fun l v _ h => by simp [clean] at h; exact .inl h.symm, fun σ iv c h => by simp [clean] at h, fun σ x h => by simp [clean] at h⟩⟩
  | cons l ls ih =>
    intro pre m p hall hinc hm
    have hinc' : p < nm l ∧ incNm (nm l) ls = true ∧ ∀ τ, l ≠ .tok τ := by
      cases l with
      | tok τ => simp [incNm] at hinc
      | slot t => simp only [incNm, Bool.and_eq_true, Nat.blt_eq] at hinc; exact ⟨hinc.1, hinc.2, by simp⟩
      | box b => simp only [incNm, Bool.and_eq_true, Nat.blt_eq] at hinc; exact ⟨hinc.1, hinc.2, by simp⟩
    obtain ⟨hp, hinc1, hl⟩ := hinc'
    have hall' : all = (pre ++ [l]) ++ ls := by simp [hall]
    have hm1 : ∀ τ σ, look τ m = some σ → TokAt s (pre ++ [l]) τ := fun τ σ h => by
      obtain ⟨l', h1, h2⟩ := hm τ σ h
      exact ⟨l', by simp [h1], h2⟩
    -- nothing is named anew
    have plain : ∀ v', (∀ M Hn N, Ext M Hn m N → v' = .un ∨ ∃ v0 val, LocV G s a w l v0 val ∧ CleanV s M Hn val v0 v') →
        ∃ N, NOk G s p m (l :: ls) N ∧ ∀ M Hn, Ext M Hn m N → Good G s a w M Hn N ((l, .v v') :: clean s all m ls) := by
      intro v' hv'
      obtain ⟨N, h1, h2⟩ := ih (pre ++ [l]) m (nm l) hall' hinc1 hm1
      exact ⟨N, h1.weak hp, fun M Hn hE => (h2 M Hn hE).val hl (hv' M Hn N hE)⟩
    -- a token gets the place's name
    have renamed : ∀ (v0 v' : VV) (τ iv : Nat) (c : Ct), s.get l = .v v0 → v0.tokOf = some τ → s.get (.tok τ) = .t iv c → look τ m = none →
        (∀ M Hn val, M τ = some (nm l, false) → CleanV s M Hn val v0 v') → 
        ∃ N, NOk G s p m (l :: ls) N ∧ ∀ M Hn, Ext M Hn m N → Good G s a w M Hn N ((l, .v v') :: (.tok (nm l), .t 0 c) :: clean s all ((τ, nm l) :: m) ls) := by
      intro v0 v' τ iv c hv hτ hc hlook hcl
      obtain ⟨N, h1, h2⟩ := ih (pre ++ [l]) ((τ, nm l) :: m) (nm l) hall' hinc1 (fun τ' σ' h => by
        rw [look_cons] at h
        by_cases e : τ = τ'
        · exact ⟨l, by simp, v0, hv, by rw [hτ, e]⟩
        · rw [if_neg e] at h; exact hm1 τ' σ' h)
      refine ⟨⟨τ, nm l, false, G.H τ⟩ :: N, NOk.cons (x := ⟨τ, nm l, false, G.H τ⟩) h1 hp (fun τ' h => ?_) hlook ⟨v0, hv, hτ⟩ (fun y hy e => ?_) (fun _ => rfl), fun M Hn hE => ?_⟩
      · rw [look_cons] at h
        by_cases e : τ = τ'
        · rw [if_pos e] at h; cases h
        · rw [if_neg e] at h; exact h
      · have := (h1.fresh y hy).1
        rw [look_cons, if_pos e.symm] at this
        cases this
      · have hx := hE.1 ⟨τ, nm l, false, G.H τ⟩ (by simp)
        have g := h2 M Hn ⟨fun x hx => hE.1 x (by simp [hx]), fun τ' σ' h => by
          rw [look_cons] at h
          by_cases e : τ = τ'
          · rw [if_pos e] at h; injection h with h; subst h; subst e; exact hx.1
          · rw [if_neg e] at h; exact hE.2 τ' σ' h⟩
        have hval : ∃ val, LocV G s a w l v0 val := by
          rcases R.locV hv hl with h | h
          · rw [h] at hτ; cases hτ
          · exact h
        obtain ⟨val, hval⟩ := hval
        exact (g.newt ⟨τ, nm l, false, G.H τ⟩ hc (fun _ => rfl) (fun h => by cases h)).val hl (.inr ⟨v0, val, hval, hcl M Hn val hx.1⟩)
    have noval : ∀ v0 τ, s.get l = .v v0 → v0.tokOf = some τ → ∃ val, LocV G s a w l v0 val := by
      intro v0 τ hv hτ
      rcases R.locV hv hl with h | h
      · rw [h] at hτ; cases hτ
      · exact h
    have same : ∀ v0, s.get l = .v v0 → v0 ≠ .un → (∀ M Hn val, CleanV s M Hn val v0 v0) → ∃ N, NOk G s p m (l :: ls) N ∧ ∀ M Hn, Ext M Hn m N → Good G s a w M Hn N ((l, .v v0) :: clean s all m ls) := by
      intro v0 hv hne hcl
      rcases R.locV hv hl with h | ⟨val, h⟩
      · exact absurd h hne
      · exact plain v0 fun M Hn N _ => .inr ⟨v0, val, h, hcl M Hn val⟩
    have unk := plain .un fun _ _ _ _ => .inl rfl
    simp only [clean]
    split
    · rename_i τ hv
      obtain ⟨val, hval⟩ := noval _ τ hv rfl
      split
      · rename_i iv c hc
        split
        · rename_i σ hlk
          exact plain _ fun M Hn N hE => .inr ⟨_, val, hval, .rf τ σ iv c hc (hE.2 τ σ hlk)⟩
        · rename_i hlk
          exact renamed _ _ τ iv c hv rfl hc hlk fun M Hn val hM => .rf τ _ iv c hc hM
      · rename_i x hx
        exact plain _ fun M Hn N _ => .inr ⟨_, val, hval, .frz τ x hx⟩
      · exact unk
    · rename_i τ lo k hv
      obtain ⟨val, hval⟩ := noval _ τ hv rfl
      split
      · rename_i iv c hc
        cases hb : (Nat.beq lo 0 && Nat.beq (refs s τ all) 1) with
        | true =>
          simp only [cond_true]
          simp only [Bool.and_eq_true, Nat.beq_eq] at hb
          obtain ⟨rfl, hr⟩ := hb
          have hself : TokAt s [l] τ := ⟨l, by simp, _, hv, rfl⟩
          have hcount : refs s τ all = refs s τ pre + refs s τ [l] + refs s τ ls := by rw [hall', refs_append, refs_append]
          have h0 := refs_pos hself
          obtain ⟨N, h1, h2⟩ := ih (pre ++ [l]) m (nm l) hall' hinc1 hm1
          refine ⟨⟨τ, nm l, true, val⟩ :: N, NOk.cons (x := ⟨τ, nm l, true, val⟩) h1 hp (fun _ h => h) ?_ ⟨_, hv, rfl⟩ (fun y hy e => ?_) (fun h => by cases h), fun M Hn hE => ?_⟩
          · cases hlk : look τ m with
            | none => rfl
            | some σ => have := refs_pos (hm τ σ hlk); omega
          · have h3 := refs_pos (h1.fresh y hy).2.2
            have e' : y.τ = τ := e
            rw [e'] at h3
            omega
          · have hx := hE.1 ⟨τ, nm l, true, val⟩ (by simp)
            have g := h2 M Hn ⟨fun x hx => hE.1 x (by simp [hx]), hE.2⟩
            have hw : IsWin (G.H τ) val 0 k := (show VR0 G s w val (.rw τ 0 k) from hval.1).2 (by rw [hc]; rfl)
            exact (g.newt ⟨τ, nm l, true, val⟩ hc (fun h => by cases h) (fun _ => ⟨k, rfl, hw⟩)).val hl (.inr ⟨_, val, hval, .cut τ _ iv c k hc hx.2⟩)
        | false =>
          simp only [cond_false]
          split
          · rename_i σ hlk
            exact plain _ fun M Hn N hE => .inr ⟨_, val, hval, .rw τ σ iv c lo k hc (hE.2 τ σ hlk)⟩
          · rename_i hlk
            exact renamed _ _ τ iv c hv rfl hc hlk fun M Hn val hM => .rw τ _ iv c lo k hc hM
      · rename_i x hx
        exact plain _ fun M Hn N _ => .inr ⟨_, val, hval, .frzw τ x lo k hx⟩
      · exact unk
    · rename_i τ iv j hv
      obtain ⟨val, hval⟩ := noval _ τ hv rfl
      split
      · rename_i iv' c hc
        cases hb : Nat.beq iv iv' with
        | true =>
          simp only [cond_true]
          rw [Nat.beq_eq] at hb
          subst hb
          split
          · rename_i σ hlk
            exact plain _ fun M Hn N hE => .inr ⟨_, val, hval, .ri τ σ iv c j hc (hE.2 τ σ hlk)⟩
          · rename_i hlk
            exact renamed _ _ τ iv c hv rfl hc hlk fun M Hn val hM => .ri τ _ iv c j hc hM
        | false => exact unk
      · exact unk
    · rename_i x hv; exact same _ hv (by simp) fun M Hn val => .sc x
    · rename_i b hv; exact same _ hv (by simp) fun M Hn val => .pt b
    · rename_i f cs hv; exact same _ hv (by simp) fun M Hn val => .fn f cs
    · rename_i hv; exact same _ hv (by simp) fun M Hn val => .ud
    · rename_i hv; exact same _ hv (by simp) fun M Hn val => .nf
    · exact unk

/-- The end of a region. -/
theorem clean_ok (R : Rel E n G s a w) {ls : List Loc} (h : incNm 0 ls = true) : ∃ G', Rel E n G' (clean s ls [] ls) a w ∧ Fr G.O w G'.O w := by
  obtain ⟨N, hN, hg⟩ := clean_spec R ls ls [] [] 0 rfl h (fun τ σ h => by simp [look] at h)
  have key : ∀ N : List NewT, (∀ x ∈ N, ∀ y ∈ N, x.τ = y.τ ∨ x.σ = y.σ → x = y) → ∃ (M : Nat → Option (Nat × Bool)) (Hn : Nat → Value), (∀ x ∈ N, M x.τ = some (x.σ, x.b) ∧ Hn x.σ = x.h) ∧ ∀ τ σ b, M τ = some (σ, b) → ∃ x ∈ N, x.τ = τ ∧ x.σ = σ ∧ x.b = b := by
    intro N
    induction N with
    | nil => intro _; exact ⟨fun _ => none, fun _ => .nilFunc, fun x h => by simp at h, fun τ σ b h => by cases h⟩
    | cons x N ih =>
      intro hu
      obtain ⟨M, Hn, h1, h2⟩ := ih fun x hx y hy => hu x (by simp [hx]) y (by simp [hy])
      refine ⟨fun τ => if x.τ = τ then some (x.σ, x.b) else M τ, fun σ => if x.σ = σ then x.h else Hn σ, fun y hy => ?_, fun τ σ b h => ?_⟩
      · by_cases e : y = x
        · subst e; simp
        · rcases List.mem_cons.1 hy with h | h
          · exact absurd h e
          · have e1 : x.τ ≠ y.τ := fun h => e (hu y hy x (by simp) (.inl h.symm))
            have e2 : x.σ ≠ y.σ := fun h => e (hu y hy x (by simp) (.inr h.symm))
            simp only [if_neg e1, if_neg e2]
            exact h1 y h
      · dsimp only at h
        by_cases e : x.τ = τ
        · rw [if_pos e] at h; injection h with h; injection h with h3 h4; exact ⟨x, by simp, e, h3, h4⟩
        · rw [if_neg e] at h; obtain ⟨y, h3, h4⟩ := h2 τ σ b h; exact ⟨y, by simp [h3], h4⟩
  obtain ⟨M, Hn, h1, h2⟩ := key N hN.uniq
  have g := hg M Hn ⟨h1, fun τ σ h => by simp [look] at h⟩
  refine R.clean M Hn (fun τ τ' σ b b' e e' => ?_) (fun τ σ e => ?_) g.loc (fun σ iv c hc => ?_) g.fro
  · obtain ⟨x, hx, x1, x2, _⟩ := h2 τ σ b e
    obtain ⟨y, hy, y1, y2, _⟩ := h2 τ' σ b' e'
    have := hN.uniq x hx y hy (.inr (by rw [x2, y2]))
    rw [← x1, ← y1, this]
  · obtain ⟨x, hx, x1, x2, x3⟩ := h2 τ σ false e
    rw [← x2, (h1 x hx).2, hN.hdr x hx x3, x1]
  · obtain ⟨t1, x, hx, t2, iv0, c0, t3, t4, t5⟩ := g.tok σ iv c hc
    refine ⟨t1, x.τ, x.b, iv0, c0, by rw [(h1 x hx).1, t2], t3, t4, fun hb => ?_⟩
    obtain ⟨m, m1, m2⟩ := t5 hb
    exact ⟨m, m1, by rw [← t2, (h1 x hx).2]; exact m2⟩
end
end Go.Tm
