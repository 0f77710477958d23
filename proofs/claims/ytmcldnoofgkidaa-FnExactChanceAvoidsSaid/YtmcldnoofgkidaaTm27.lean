/- The T-machine: calls of functions. -/
import Derived.Test.YtmcldnoofgkidaaTm26
set_option linter.unusedVariables false
set_option linter.unusedSimpArgs false
namespace Go.Tm
open Go.RowKit

theorem get_mem {u : St} {l : Loc} (h : l ∈ locsOf u) (s : St) : (l, St.get (u ++ s) l) ∈ u := by
  induction u with
  | nil => simp [locsOf] at h
  | cons p u ih =>
    obtain ⟨m, x⟩ := p
    rw [List.cons_append, get_cons]
    by_cases e : m = l
    · subst e; rw [if_pos rfl]; exact List.mem_cons_self
    · rw [if_neg e]
      refine List.mem_cons_of_mem _ (ih ?_)
      simp only [locsOf, List.mem_cons] at h
      rcases h with h | h
      · exact absurd h.symm e
      · exact h

theorem locsOf_mem {u : St} {l : Loc} {x : SV} (h : (l, x) ∈ u) : l ∈ locsOf u := by
  induction u with
  | nil => simp at h
  | cons p u ih =>
    obtain ⟨m, y⟩ := p
    simp only [locsOf, List.mem_cons]
    rcases List.mem_cons.1 h with e | h
    · injection e with e _; exact .inl e
    · exact .inr (ih h)

theorem argsCV_kind {CR : CRel} {s u : St} (ks : List Key) (mv : Nat → Bool) : ∀ (vs : List VV) (i : Nat) (k : List CV → List Nat → Rd), Runs CR s (argsCV ks mv i vs k) u → ∀ v ∈ lentL mv i vs, ∀ τ ∈ v.toks, v.tokOf = some τ := by
  intro vs
  induction vs with
  | nil => intro i k _ v hv; simp [lentL] at hv
  | cons v vs ih =>
    intro i k h x hx τ hτ
    have pv : ∀ k', Runs CR s (pvOf v k') u → (∀ τ ∈ v.toks, v.tokOf = some τ) ∧ ∃ p, Runs CR s (k' p) u := by
      intro k' h
      cases v with
      | sc x => exact ⟨by simp [VV.toks], x, h⟩
      | rf σ =>
        refine ⟨by simp [VV.toks, VV.tokOf], ?_⟩
        simp only [pvOf, Runs] at h
        split at h <;> first | exact ⟨_, h⟩ | exact h.elim
      | rw σ lo n =>
        refine ⟨by simp [VV.toks, VV.tokOf], ?_⟩
        simp only [pvOf, Runs] at h
        split at h <;> first | exact ⟨_, h⟩ | exact h.elim
      | ri σ iv j =>
        refine ⟨by simp [VV.toks, VV.tokOf], ?_⟩
        simp only [pvOf, Runs] at h
        split at h <;> first | exact ⟨_, h.2⟩ | exact h.elim
      | _ => exact h.elim
    unfold argsCV at h
    unfold lentL at hx
    cases hm : mv i with
    | true =>
      rw [hm] at h hx
      simp only [cond_true] at h hx
      have rest : ∃ k', Runs CR s (argsCV ks mv (i + 1) vs k') u := by
        split at h
        · simp only [Runs] at h; split at h <;> first | exact ⟨_, h⟩ | exact h.elim
        · simp only [Runs] at h; split at h <;> first | exact ⟨_, h⟩ | exact h.elim
        · exact ⟨_, h⟩
        · exact h.elim
      obtain ⟨k', h'⟩ := rest
      exact ih (i + 1) k' h' x hx τ hτ
    | false =>
      rw [hm] at h hx
      simp only [cond_false] at h hx
      have rest : ∃ k', Runs CR s (argsCV ks mv (i + 1) vs k') u := by
        cases v with
        | fn f cs => exact ⟨_, h⟩
        | pt b => exact ⟨_, h⟩
        | nf => exact ⟨_, h⟩
        | _ => obtain ⟨_, p, h'⟩ := pv _ h; exact ⟨_, h'⟩
      obtain ⟨k', h'⟩ := rest
      rcases List.mem_cons.1 hx with e | hx
      · subst e
        cases x with
        | fn f cs => simp [VV.toks] at hτ
        | pt b => simp [VV.toks] at hτ
        | nf => simp [VV.toks] at hτ
        | _ => exact (pv _ h).1 τ hτ
      · exact ih (i + 1) k' h' x hx τ hτ

theorem lentL_mem {mv : Nat → Bool} : ∀ (vs : List VV) (i j : Nat) (v : VV), vs[j]? = some v → mv (i + j) = false → v ∈ lentL mv i vs
  | [], i, j, v, h, _ => by simp at h
  | x :: vs, i, j, v, h, hm => by
    unfold lentL
    cases j with
    | zero => simp at h; subst h; rw [Nat.add_zero] at hm; rw [hm]; simp
    | succ j =>
      have := lentL_mem vs (i + 1) j v (by simpa using h) (by rw [show i + 1 + j = i + (j + 1) by omega]; exact hm)
      cases mv i with
      | true => exact this
      | false => exact List.mem_cons_of_mem _ this

theorem toksL_of {vs : List VV} {τ : Nat} (h : τ ∈ toksL vs) : ∃ v ∈ vs, τ ∈ v.toks := by
  induction vs with
  | nil => simp [toksL] at h
  | cons v vs ih =>
    simp only [toksL, List.mem_append] at h
    rcases h with h | h
    · exact ⟨v, by simp, h⟩
    · obtain ⟨x, hx, hτ⟩ := ih h
      exact ⟨x, by simp [hx], hτ⟩

theorem tokOf_mem {v : VV} {τ : Nat} (h : v.tokOf = some τ) : τ ∈ v.toks := by
  cases v <;> simp [VV.tokOf, VV.toks] at h ⊢ <;> exact h.symm

theorem freeze_spec {CR : CRel} {s u : St} : ∀ (vs : List VV) (k : St → Rd), Runs CR s (freeze vs k) u →
    ∃ fz, Runs CR s (k fz) u ∧ (∀ l x, (l, x) ∈ fz → ∃ τ iv c, τ ∈ toksL vs ∧ l = .tok τ ∧ s.get (.tok τ) = .t iv c ∧ (∀ k xss, c ≠ .hole k xss) ∧ x = .f c.pv) ∧
      (∀ v ∈ vs, ∀ τ, v.tokOf = some τ → ∀ iv c, s.get (.tok τ) = .t iv c → Loc.tok τ ∈ locsOf fz) := by
  intro vs
  induction vs with
  | nil => intro k h; exact ⟨[], h, by simp, by simp⟩
  | cons v vs ih =>
    intro k h
    have skip : Runs CR s (freeze vs k) u → (∀ τ, v.tokOf = some τ → ∀ iv c, s.get (.tok τ) ≠ .t iv c) → ∃ fz, Runs CR s (k fz) u ∧ (∀ l x, (l, x) ∈ fz → ∃ τ iv c, τ ∈ toksL (v :: vs) ∧ l = .tok τ ∧ s.get (.tok τ) = .t iv c ∧ (∀ k xss, c ≠ .hole k xss) ∧ x = .f c.pv) ∧
      (∀ x ∈ v :: vs, ∀ τ, x.tokOf = some τ → ∀ iv c, s.get (.tok τ) = .t iv c → Loc.tok τ ∈ locsOf fz) := by
      intro h hn
      obtain ⟨fz, h1, h2, h3⟩ := ih k h
      refine ⟨fz, h1, fun l x hm => by
        obtain ⟨τ, iv, c, h0, h⟩ := h2 l x hm
        exact ⟨τ, iv, c, by simp only [toksL, List.mem_append]; exact .inr h0, h⟩, fun x hx τ hτ iv c hc => ?_⟩
      rcases List.mem_cons.1 hx with rfl | hx
      · exact absurd hc (hn τ hτ iv c)
      · exact h3 x hx τ hτ iv c hc
    have one : ∀ τ, v.tokOf = some τ → Runs CR s (.get (.tok τ) fun s => match s with
        | .t _ (.hole _ _) => .fail
        | .t _ c => freeze vs fun u => k ((.tok τ, .f c.pv) :: u)
        | _ => freeze vs k) u → ∃ fz, Runs CR s (k fz) u ∧ (∀ l x, (l, x) ∈ fz → ∃ τ iv c, τ ∈ toksL (v :: vs) ∧ l = .tok τ ∧ s.get (.tok τ) = .t iv c ∧ (∀ k xss, c ≠ .hole k xss) ∧ x = .f c.pv) ∧
      (∀ x ∈ v :: vs, ∀ τ, x.tokOf = some τ → ∀ iv c, s.get (.tok τ) = .t iv c → Loc.tok τ ∈ locsOf fz) := by
      intro τ hv h
      simp only [Runs] at h
      split at h
      · exact h.elim
      · rename_i iv c hnh hc
        obtain ⟨fz, h1, h2, h3⟩ := ih _ h
        refine ⟨_, h1, fun l x hm => ?_, fun x hx σ hσ iv' c' hc' => ?_⟩
        · rcases List.mem_cons.1 hm with e | hm
          · injection e with e1 e2; exact ⟨τ, iv, c, by simp only [toksL, List.mem_append]; exact .inl (tokOf_mem hv), e1, hc, fun k xss e => hnh k xss e, e2⟩
          · obtain ⟨τ, iv, c, h0, h⟩ := h2 l x hm
            exact ⟨τ, iv, c, by simp only [toksL, List.mem_append]; exact .inr h0, h⟩
        · simp only [locsOf, List.mem_cons]
          rcases List.mem_cons.1 hx with rfl | hx
          · rw [hv] at hσ; injection hσ with hσ; exact .inl (by rw [hσ])
          · exact .inr (h3 x hx σ hσ iv' c' hc')
      · rename_i hnh hc
        refine skip h fun σ hσ iv c hc' => ?_
        rw [hv] at hσ; injection hσ with hσ
        subst hσ
        exact hc iv c hc'
    cases v with
    | rf τ => exact one τ rfl h
    | rw τ lo n => exact one τ rfl h
    | ri τ iv j => exact one τ rfl h
    | _ => exact skip h (by simp [VV.tokOf])

theorem resSt_mem {ks : List Key} {t : Nat} {l : Loc} {x : SV} : ∀ (cs : List CV) (i : Nat), (l, x) ∈ (resSt ks t i cs).2 → ∃ j d, cs[j]? = some (.ow d) ∧ l = .tok (resTok t (i + j)) ∧ x = .t 0 d
  | [], i, h => by simp [resSt] at h
  | c :: cs, i, h => by
    simp only [resSt, List.mem_append] at h
    rcases h with h | h
    · cases c with
      | ow d => simp only [ofCV, List.mem_singleton] at h; injection h with h1 h2; exact ⟨0, d, rfl, h1, h2⟩
      | _ => simp [ofCV] at h
    · obtain ⟨j, d, h1, h2, h3⟩ := resSt_mem cs (i + 1) h
      exact ⟨j + 1, d, by simpa using h1, by rw [h2]; congr 2; omega, h3⟩

theorem resSt_has {ks : List Key} {t : Nat} {d : Ct} : ∀ (cs : List CV) (i j : Nat), cs[j]? = some (.ow d) → (Loc.tok (resTok t (i + j)), SV.t 0 d) ∈ (resSt ks t i cs).2
  | [], i, j, h => by simp at h
  | c :: cs, i, j, h => by
    simp only [resSt, List.mem_append]
    cases j with
    | zero => simp at h; subst h; exact .inl (by simp [ofCV])
    | succ j =>
      have := resSt_has (ks := ks) (t := t) cs (i + 1) j (by simpa using h)
      rw [show i + 1 + j = i + (j + 1) by omega] at this
      exact .inr this

theorem resSt_len {ks : List Key} {t : Nat} : ∀ (cs : List CV) (i : Nat), (resSt ks t i cs).1.length = cs.length
  | [], i => rfl
  | c :: cs, i => by simp only [resSt, List.length_cons, resSt_len cs (i + 1)]

theorem resSt_at {ks : List Key} {t : Nat} {c : CV} : ∀ (cs : List CV) (i j : Nat), cs[j]? = some c → (resSt ks t i cs).1[j]? = some (ofCV ks (resTok t (i + j)) c).1
  | [], i, j, h => by simp at h
  | c' :: cs, i, j, h => by
    cases j with
    | zero => simp at h; subst h; simp [resSt]
    | succ j =>
      have := resSt_at (ks := ks) (t := t) cs (i + 1) j (by simpa using h)
      simp only [resSt, List.getElem?_cons_succ]
      rw [this, show i + 1 + j = i + (j + 1) by omega]

theorem boxSt_mem {ks : List Key} {t : Nat} {l : Loc} {x : SV} : ∀ (bs : List Key) (cs : List CV) (i : Nat), (l, x) ∈ boxSt ks t i bs cs →
    ∃ j b c, bs[j]? = some b ∧ cs[j]? = some c ∧ ((l = .box b ∧ x = .v (ofCV ks (boxTok t (i + j)) c).1) ∨ ∃ d, c = .ow d ∧ l = .tok (boxTok t (i + j)) ∧ x = .t 0 d)
  | [], cs, i, h => by simp [boxSt] at h
  | b :: bs, [], i, h => by simp [boxSt] at h
  | b :: bs, c :: cs, i, h => by
    simp only [boxSt, List.cons_append, List.mem_cons, List.mem_append] at h
    rcases h with h | h | h
    · injection h with h1 h2; exact ⟨0, b, c, rfl, rfl, .inl ⟨h1, h2⟩⟩
    · refine ⟨0, b, c, rfl, rfl, .inr ?_⟩
      cases c with
      | ow d => simp only [ofCV, List.mem_singleton] at h; injection h with h1 h2; exact ⟨d, rfl, h1, h2⟩
      | _ => simp [ofCV] at h
    · obtain ⟨j, b', c', h1, h2, h3⟩ := boxSt_mem bs cs (i + 1) h
      exact ⟨j + 1, b', c', by simpa using h1, by simpa using h2, by rw [show i + (j + 1) = i + 1 + j by omega]; exact h3⟩

theorem boxSt_has {ks : List Key} {t : Nat} {b : Key} {c : CV} : ∀ (bs : List Key) (cs : List CV) (i j : Nat), bs[j]? = some b → cs[j]? = some c →
    (Loc.box b, SV.v (ofCV ks (boxTok t (i + j)) c).1) ∈ boxSt ks t i bs cs ∧ ∀ d, c = .ow d → (Loc.tok (boxTok t (i + j)), SV.t 0 d) ∈ boxSt ks t i bs cs
  | [], cs, i, j, h, _ => by simp at h
  | b' :: bs, [], i, j, _, h => by simp at h
  | b' :: bs, c' :: cs, i, j, h, h' => by
    simp only [boxSt, List.cons_append, List.mem_cons, List.mem_append]
    cases j with
    | zero =>
      simp at h h'; subst h; subst h'
      refine ⟨.inl rfl, fun d e => .inr (.inl ?_)⟩
      subst e
      simp [ofCV]
    | succ j =>
      have := boxSt_has (ks := ks) (t := t) bs cs (i + 1) j (by simpa using h) (by simpa using h')
      rw [show i + 1 + j = i + (j + 1) by omega] at this
      exact ⟨.inr (.inr this.1), fun d e => .inr (.inr (this.2 d e))⟩

theorem deadL_mem {l : Loc} {x : SV} : ∀ (g : List Nat), (l, x) ∈ deadL g ↔ ∃ τ ∈ g, l = .tok τ ∧ x = .v .un
  | [] => by simp [deadL]
  | τ :: g => by
    simp only [deadL, List.mem_cons, deadL_mem g]
    constructor
    · rintro (h | ⟨σ, h1, h2⟩)
      · injection h with h1 h2; exact ⟨τ, .inl rfl, h1, h2⟩
      · exact ⟨σ, .inr h1, h2⟩
    · rintro ⟨σ, rfl | h1, h2, h3⟩
      · exact .inl (by rw [h2, h3])
      · exact .inr ⟨σ, h1, h2, h3⟩

theorem keysOfAll_mem {vs : List VV} {v : VV} (hv : v ∈ vs) {x : Key} (hx : x ∈ v.keys) : x ∈ keysOfAll vs := by
  induction vs with
  | nil => simp at hv
  | cons y ys ih =>
    simp only [keysOfAll, List.mem_append]
    rcases List.mem_cons.1 hv with rfl | h
    · exact .inl hx
    · exact .inr (ih h)

theorem apartN'_out {ls gone : List Nat} (h : apartN' ls gone = true) {τ : Nat} (h1 : τ ∈ ls) (h2 : τ ∈ gone) : False := by
  induction ls with
  | nil => simp at h1
  | cons y ys ih =>
    simp only [apartN', Bool.and_eq_true, Bool.not_eq_true', Bool.eq_false_iff, ne_eq, natHas_iff] at h
    rcases List.mem_cons.1 h1 with rfl | h'
    · exact h.1 h2
    · exact ih h.2 h'

/-- What a call's slot holds. -/
def resV : List VV → VV
  | [] => .ud
  | [x] => x
  | xs => .tp xs

theorem ofCV_ntp (ks : List Key) (τ : Nat) (c : CV) : ∀ xs, (ofCV ks τ c).1 ≠ .tp xs := by cases c <;> simp [ofCV]

theorem vr_of0 {G : Gh} {s : St} {w : World} {v : Value} {x : VV} (h : VR0 G s w v x) (hx : ∀ xs, x ≠ .tp xs) : VR G s w v x := by
  cases x with
  | tp xs => exact absurd rfl (hx xs)
  | _ => exact h

section
variable {P : Program} {K : Kf} {E : El} {n : Nat} {G : Gh} {s : St} {a : Act} {w : World} {CR : CRel} {o : Oper} {u : St}

/-- The shape of a call. -/
theorem runs_callOp (R : Rel E n G s a w) {t : Nat} {f : FuncId} {mv : Nat → Bool} {vs : List VV} {vals : List Value} (hl : vals.length = vs.length) (hv : ∀ (j : Nat) val v, vals[j]? = some val → vs[j]? = some v → VR G s w val v)
    (h : Runs CR s (callOp mv t f vs) u) : ∃ (ks : List Key) (bs : List VV) (as bx : List CV) (ga gone : List Nat) (rs bx' : List CV) (fz : St), bs.length = ks.length ∧ ks.Nodup ∧ (∀ v ∈ vs, ∀ x ∈ v.keys, x ∈ ks) ∧ bs.length ≤ 20 ∧
      (∀ (j : Nat) b v, ks[j]? = some b → bs[j]? = some v → s.get (.box b) = .v v ∧ ∀ x ∈ v.keys, x ∈ ks) ∧
      as.length = vs.length ∧ (∀ (j : Nat) val v c, vals[j]? = some val → vs[j]? = some v → as[j]? = some c → ArgOK G s ks w ga (mv j) val v c) ∧
      (∀ (j : Nat) v, vs[j]? = some v → mv j = true → ∀ τ, v.tokOf = some τ → τ ∈ ga) ∧
      (∀ τ ∈ ga, (∃ iv d, s.get (.tok τ) = .t iv d) ∧ ∃ (j : Nat) (v : VV), vs[j]? = some v ∧ v.tokOf = some τ ∧ mv j = true ∧ ∀ (j' : Nat) (v' : VV), vs[j']? = some v' → v'.tokOf = some τ → mv j' = true → j' = j) ∧
      bx.length = bs.length ∧ (∀ (j : Nat) v c, bs[j]? = some v → bx[j]? = some c → BoxOK s ks gone v c) ∧
      (∀ τ ∈ gone, (∃ iv d, s.get (.tok τ) = .t iv d) ∧ ∃ j : Nat, bs[j]? = some (VV.rf τ) ∧ ∀ j' : Nat, bs[j']? = some (VV.rf τ) → j' = j) ∧
      (∀ τ ∈ toksL (lentL mv 0 vs), τ ∉ ga ++ gone) ∧ (∀ τ ∈ ga, τ ∉ gone) ∧ CR f as bx rs bx' ∧
      (∀ l x, (l, x) ∈ fz → ∃ τ iv c, τ ∈ toksL (lentL mv 0 vs) ∧ l = .tok τ ∧ s.get (.tok τ) = .t iv c ∧ (∀ k xss, c ≠ .hole k xss) ∧ x = .f c.pv ∧ (anyShares rs || anyShares bx') = true) ∧
      ((anyShares rs || anyShares bx') = true → ∀ τ ∈ toksL (lentL mv 0 vs), ∀ iv c, s.get (.tok τ) = .t iv c → Loc.tok τ ∈ locsOf fz) ∧
      u = (.slot t, .v (resV (resSt ks t 0 rs).1)) :: ((resSt ks t 0 rs).2 ++ (boxSt ks t 0 ks bx' ++ (deadL (ga ++ gone) ++ fz))) := by
  unfold callOp at h
  obtain ⟨ex, e1, e2, e3⟩ := addKeys_spec (keysOfAll vs) []
  obtain ⟨ks, bs, h, b1, b2, b3, b4, b5⟩ := runs_gather 20 0 _ [] h rfl (Nat.zero_le _) (by rw [e1]; exact e2 List.nodup_nil) (by simp)
  have hkind := argsCV_kind ks mv vs 0 _ h
  obtain ⟨as, ga, a1, h, a2, a3, a4, a5⟩ := runs_argsCV R ks mv vs 0 vals _ hl hv h
  simp only [Nat.zero_add] at a3 a4 a5
  obtain ⟨bx, gone, x1, h, x2, x3, x4⟩ := runs_boxesCV ks bs _ h
  obtain ⟨hap, rs, bx', hcr, h⟩ := h
  simp only [Bool.and_eq_true] at hap
  have hkeys : ∀ v ∈ vs, ∀ x ∈ v.keys, x ∈ ks := fun v hv' x hx => b3 x (by rw [e1]; exact e3 x (keysOfAll_mem hv' hx))
  have hdis : ∀ τ ∈ toksL (lentL mv 0 vs), τ ∉ ga ++ gone := fun τ h1 h2 => apartN'_out hap.1 h1 h2
  have hdis2 : ∀ τ ∈ ga, τ ∉ gone := fun τ h1 h2 => apartN'_out hap.2 h1 h2
  have fin : ∀ fz, Runs CR s (match rs with
          | [] => .done ((.slot t, .v .ud) :: boxSt ks t 0 ks bx' ++ deadL (ga ++ gone) ++ fz)
          | [c] => let r := ofCV ks (resTok t 0) c; .done ((.slot t, .v r.1) :: r.2 ++ boxSt ks t 0 ks bx' ++ deadL (ga ++ gone) ++ fz)
          | cs => let r := resSt ks t 0 cs; .done ((.slot t, .v (.tp r.1)) :: r.2 ++ boxSt ks t 0 ks bx' ++ deadL (ga ++ gone) ++ fz)) u →
      u = (.slot t, .v (resV (resSt ks t 0 rs).1)) :: ((resSt ks t 0 rs).2 ++ (boxSt ks t 0 ks bx' ++ (deadL (ga ++ gone) ++ fz))) := by
    intro fz h
    match rs, h with
    | [], h => simp only [Runs] at h; rw [h]; simp [resSt, resV]
    | [c], h => simp only [Runs] at h; rw [h]; simp [resSt, resV]
    | c :: d :: cs, h => simp only [Runs] at h; rw [h]; simp [resSt, resV]
  cases hsh : (anyShares rs || anyShares bx') with
  | true =>
    simp only [hsh, cond_true] at h
    obtain ⟨fz, h, f1, f2⟩ := freeze_spec _ _ h
    refine ⟨ks, bs, as, bx, ga, gone, rs, bx', fz, b1, b2, hkeys, by omega, b5, a1, a3, a4, a5, x1, x3, x4, hdis, hdis2, hcr, fun l x hm => ?_, fun _ τ hτ iv c hc => ?_, fin fz h⟩
    · obtain ⟨τ, iv, c, q0, q1, q2, q3, q4⟩ := f1 l x hm
      exact ⟨τ, iv, c, q0, q1, q2, q3, q4, hsh⟩
    · obtain ⟨v, hv', hτ'⟩ := toksL_of hτ
      exact f2 v hv' τ (hkind v hv' τ hτ') iv c hc
  | false =>
    simp only [hsh, cond_false] at h
    exact ⟨ks, bs, as, bx, ga, gone, rs, bx', [], b1, b2, hkeys, by omega, b5, a1, a3, a4, a5, x1, x3, x4, hdis, hdis2, hcr, by simp, by simp [hsh], fin [] h⟩
end
end Go.Tm
