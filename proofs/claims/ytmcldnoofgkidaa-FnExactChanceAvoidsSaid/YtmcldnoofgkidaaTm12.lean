/- The T-machine: append of rows, joined; literals. -/
import Derived.Test.YtmcldnoofgkidaaTm11
set_option linter.unusedVariables false
set_option linter.unusedSimpArgs false
namespace Go.Tm
open Go.RowKit

section
variable {P : Program} {K : Kf} {E : El} {n : Nat} {G : Gh} {s : St} {a : Act} {w : World} {CR : CRel} {o : Oper} {u : St}

theorem SlI.any {O O' : Lbl} {w : World} {v : Value} {cs : List Value} (h : SlI O w v cs) (hk : ∀ g, O g = .im → O' g = .im) : SlI O' w v cs := h.keep fun g hg => ⟨hk g hg, rfl⟩

theorem rhoR_im (τ σ : Option Nat) (oo : Bool) (m t : Nat) : rhoR τ σ oo m t .im = .im := rfl

/-- Where what is appended comes from. -/
def SrcG (s : St) (o2 : Bool) (σ : Option Nat) (g : St) : Prop :=
  (g = [] ∧ σ = none) ∨ ∃ q sv, σ = some q ∧ g = [(.tok q, sv)] ∧ (sv = .v .un ∨ o2 = false ∧ ∃ iv b d, s.get (.tok q) = .t iv (.rows b d) ∧ sv = .t (iv + 1) (.rows false d))

def SrcIn (G : Gh) (w : World) (E : El) (o2 : Bool) (yss : List (List Int)) (σ : Option Nat) (hs2 : List Value) : Prop :=
  ∀ (τ : Option Nat) (o1 : Bool) (m t : Nat), (∀ q, τ = some q → σ ≠ some q) → ∀ (j : Nat) h xs, hs2[j]? = some h → yss[j]? = some xs →
    (∃ σ0, σ = some σ0 ∧ SlO G.O w (.ow σ0 (some j)) (E.eI .i64) h (vints .i64 xs)) ∨ (o2 = false ∧ SlI (fun g => rhoR τ σ (o1 && o2) m t (G.O g)) w h (vints .i64 xs))

theorem runs_srcRows (R : Rel E n G s a w) {val : Value} {v : VV} (hv : VR G s w val v) {f : Bool → List (List Int) → St → Rd} (h : Runs CR s (srcRows v f) u) :
    ∃ o2 yss g σ hs2, Runs CR s (f o2 yss g) u ∧ SlI (fun _ => .im) w val hs2 ∧ hs2.length = yss.length ∧ (∀ q, σ = some q → q ∈ v.toks) ∧ SrcIn G w E o2 yss σ hs2 ∧ SrcG s o2 σ g := by
  have pure' : ∀ {val : Value} {yss : List (List Int)} {hs : List Value}, (∀ (j : Nat) h xs, hs[j]? = some h → yss[j]? = some xs → SlI G.O w h (vints .i64 xs)) → SrcIn G w E false yss none hs := by
    intro val yss hs hh τ o1 m t _ j h xs h1 h2
    exact .inr ⟨rfl, (hh j h xs h1 h2).any fun g hg => by rw [hg]; rfl⟩
  cases v with
  | sc x => cases x with
    | rows ys =>
      obtain ⟨hs, h1, h2, h3⟩ := hv
      exact ⟨false, ys, [], none, hs, h, h1.any fun _ _ => rfl, h2, (by intro q e; cases e), pure' (val := val) h3, .inl ⟨rfl, rfl⟩⟩
    | nil =>
      have e : val = .slice none 0 0 := hv
      subst e
      exact ⟨true, [], [], none, [], h, ⟨none, 0, rfl, Nat.le_refl _, Nat.zero_le _, fun h => absurd rfl h⟩, rfl, (by intro q e; cases e), (by intro _ _ _ _ _ j h xs h1; simp at h1), .inl ⟨rfl, rfl⟩⟩
    | _ => exact h.elim
  | rf q =>
    simp only [srcRows, Runs] at h
    split at h
    · rename_i iv o2 ys hc
      have hval : val = G.H q := hv.2 (by rw [hc]; rfl)
      obtain ⟨hs, h1, h2, h3⟩ := R.toks q _ _ hc
      rw [hval]
      refine ⟨o2, ys, _, some q, hs, h, h1.lent fun _ _ => rfl, h2, (by intro q' e; injection e with e; subst e; simp [VV.toks]), ?_, .inr ⟨q, _, rfl, rfl, .inl rfl⟩⟩
      intro τ o1 m t hne j h xs r1 r2
      obtain ⟨a1, a2⟩ := h3 j h xs r1 r2
      cases o2 with
      | true => exact .inl ⟨q, rfl, a1 rfl⟩
      | false => exact .inr ⟨rfl, (a2 rfl).any fun g hg => by rw [hg]; rfl⟩
    · rename_i ys hc
      have hval : val = G.H q := hv.2 (by rw [hc]; rfl)
      obtain ⟨hs, h1, h2, h3⟩ := R.froz q _ hc
      rw [hval]
      exact ⟨false, ys, [], none, hs, h, h1.any fun _ _ => rfl, h2, (by intro q e; cases e), pure' (val := val) h3, .inl ⟨rfl, rfl⟩⟩
    · exact h.elim
  | rw q lo m =>
    simp only [srcRows, Runs] at h
    split at h
    · rename_i iv b ys hc
      have hw := hv.2 (by rw [hc]; rfl)
      obtain ⟨hs, h1, h2, h3⟩ := R.toks q _ _ hc
      have hI : SlI (fun _ => .im) w val ((hs.drop lo).take m) := SlI.win (h1.lent (O' := fun _ => .im) fun _ _ => rfl) hw
      refine ⟨false, (ys.drop lo).take m, _, some q, (hs.drop lo).take m, h, hI, by simp [h2], (by intro q' e; injection e with e; subst e; simp [VV.toks]), ?_, .inr ⟨q, _, rfl, rfl, .inr ⟨rfl, iv, b, ys, hc, rfl⟩⟩⟩
      intro τ o1 m' t hne j h xs r1 r2
      rw [List.getElem?_take] at r1 r2
      split at r1
      · rename_i hj
        rw [if_pos hj, List.getElem?_drop] at r2
        rw [List.getElem?_drop] at r1
        obtain ⟨a1, a2⟩ := h3 _ h xs r1 r2
        refine .inr ⟨rfl, ?_⟩
        cases b with
        | true =>
          refine (a1 rfl).lent fun g hg => ?_
          have hq : ¬ some q = τ := fun e => hne q e.symm rfl
          rw [hg]; simp only [rhoR]; rw [if_neg hq, if_pos trivial]; simp
        | false => exact (a2 rfl).any fun g hg => by rw [hg]; rfl
      · cases r1
    · rename_i ys hc
      have hw := hv.2 (by rw [hc]; rfl)
      obtain ⟨hs, h1, h2, h3⟩ := R.froz q _ hc
      have hI : SlI G.O w val ((hs.drop lo).take m) := SlI.win h1 hw
      refine ⟨false, (ys.drop lo).take m, [], none, (hs.drop lo).take m, h, hI.any fun _ _ => rfl, by simp [h2], (by intro q e; cases e), pure' (val := val) ?_, .inl ⟨rfl, rfl⟩⟩
      intro j h xs r1 r2
      rw [List.getElem?_take] at r1 r2
      split at r1
      · rename_i hj
        rw [if_pos hj, List.getElem?_drop] at r2
        rw [List.getElem?_drop] at r1
        exact h3 _ h xs r1 r2
      · cases r1
    · exact h.elim
  | _ => exact h.elim

theorem append_rowsOp (hK : TyOK P K E) (R : Rel E n G s a w) {x y : Operand} {as : Array TypeId} (ho : o.op = .call { callee := .builtin .append, args := #[x, y], argTypes := as })
    (T : TypeId) (t : Nat) (e : TypeId) (v v' : VV) (has : as = #[T, T]) (hdst : o.dst = some t) (ht : t < n) (hno : ∀ c, (Loc.tok t, SV.t 0 c) ∈ u → NoRef t s) (hk : K T = .slR e)
    (hx : VR G s w (a.eval x) v) (hy : VR G s w (a.eval y) v') (hu : Runs CR s (appendOp K T t v v') u) : OpOK E n P G s a w o u := by
  subst has
  have hT := hK T
  unfold appendOp at hu
  dsimp only at hu
  rw [hk] at hT hu
  obtain ⟨h1, h2, _, inf, h3, h4, h5, h6⟩ := hT
  subst h2
  dsimp only at hu
  cases v with
  | sc v => cases v with
    | nil =>
      obtain ⟨o2, yss, g, σ, hs2, hu, q1, q2, q3, q4, q5⟩ := runs_srcRows R hy hu
      obtain ⟨hc, hu⟩ := hu
      have hu' : u = [(.slot t, .v (.rf t)), (.tok t, .t 0 (.rows (true && o2) ([] ++ yss)))] ++ g := hu
      have hm : (Loc.tok t, SV.t 0 (.rows (true && o2) ([] ++ yss))) ∈ u := by rw [hu']; simp
      have hno' := hno _ hm
      subst hu'
      have hcap : ([] : List (List Int)).length + yss.length ≤ 4398046511104 := by have := capB_le hc; simpa [Ct.len] using this
      refine append_rows R (s1 := g ++ s) (hs1 := []) (xss := []) (hs2 := hs2) (o1 := true) (τ := none) (σ := σ) ho hdst ht hno' h1 h3 h5 h4 rfl h6 hx rfl (World.ownsRow_nil _ _ _ _) (by intro g hg; simp [Value.ownBlock] at hg) rfl
        (by intro j h xs hh; simp at hh) q1 q2 (fun j h xs r1 r2 => q4 none true 0 t (by intro q e; cases e) j h xs r1 r2) (by intro q e; cases e) hcap rfl ?_ ?_ (by intro q e; cases e) ?_ ?_
      · rcases q5 with ⟨rfl, _⟩ | ⟨q, sv, _, rfl, _⟩
        · intro _; rfl
        · intro t'; rw [List.singleton_append, get_cons, if_neg (by simp)]
      · rcases q5 with ⟨rfl, _⟩ | ⟨q, sv, _, rfl, _⟩
        · intro _; rfl
        · intro t'; rw [List.singleton_append, get_cons, if_neg (by simp)]
      · rcases q5 with ⟨rfl, hσ⟩ | ⟨q, sv, hσ, rfl, h⟩
        · intro q e; rw [hσ] at e; cases e
        · intro q' e
          rw [hσ] at e; injection e with e; subst e
          rw [List.singleton_append, get_cons, if_pos rfl]
          rcases h with h | ⟨hf, iv, b, d, e1, e2⟩
          · exact .inl h
          · exact .inr ⟨by rw [hf]; rfl, iv, b, d, e1, e2⟩
      · rcases q5 with ⟨rfl, hσ⟩ | ⟨q, sv, hσ, rfl, h⟩
        · intro q _ _; rfl
        · intro q' _ e
          rw [List.singleton_append, get_cons, if_neg (by rintro h; injection h with h; exact e (by rw [hσ, h]))]
    | _ => exact hu.elim
  | rf τ =>
    obtain ⟨hnot, hu⟩ := hu
    simp only [Runs] at hu
    split at hu
    · rename_i iv o1 xss hc
      obtain ⟨o2, yss, g, σ, hs2, hu, q1, q2, q3, q4, q5⟩ := runs_srcRows R hy hu
      obtain ⟨hcap, hu⟩ := hu
      have hu' : u = [(.slot t, .v (.rf t)), (.tok t, .t 0 (.rows (o1 && o2) (xss ++ yss)))] ++ ((.tok τ, .v .un) :: g) := hu
      have hm : (Loc.tok t, SV.t 0 (.rows (o1 && o2) (xss ++ yss))) ∈ u := by rw [hu']; simp
      have hno' := hno _ hm
      subst hu'
      have hne : ∀ q, some τ = some q → σ ≠ some q := by
        intro q e e2
        injection e with e; subst e
        have := q3 τ e2
        rw [← natHas_iff] at this
        rw [this] at hnot
        cases hnot
      have hcap' : xss.length + yss.length ≤ 4398046511104 := by have := capB_le hcap; simpa [Ct.len] using this
      obtain ⟨hs, k1, k2, k3⟩ := R.toks τ _ _ hc
      have hxv : a.eval x = G.H τ := hx.2 (by rw [hc]; rfl)
      refine append_rows R (s1 := (.tok τ, .v .un) :: (g ++ s)) (hs1 := hs) (xss := xss) (hs2 := hs2) (o1 := o1) (τ := some τ) (σ := σ) ho hdst ht hno' h1 h3 h5 h4 rfl h6 hxv rfl k1.1 (fun g hg => ⟨τ, rfl, k1.2 g hg⟩) k2
        (fun j h xs r1 r2 => ⟨fun e => ⟨τ, rfl, (k3 j h xs r1 r2).1 e⟩, (k3 j h xs r1 r2).2⟩) q1 q2 (fun j h xs r1 r2 => q4 (some τ) o1 xss.length t hne j h xs r1 r2) hne hcap' rfl ?_ ?_ ?_ ?_ ?_
      · intro t'
        rw [get_cons, if_neg (by simp)]
        rcases q5 with ⟨rfl, _⟩ | ⟨q, sv, _, rfl, _⟩
        · rfl
        · rw [List.singleton_append, get_cons, if_neg (by simp)]
      · intro t'
        rw [get_cons, if_neg (by simp)]
        rcases q5 with ⟨rfl, _⟩ | ⟨q, sv, _, rfl, _⟩
        · rfl
        · rw [List.singleton_append, get_cons, if_neg (by simp)]
      · intro q e
        injection e with e; subst e
        rw [get_cons, if_pos rfl]
      · intro q e
        have hq := hne
        rw [get_cons, if_neg (by rintro h; injection h with h; exact hne q (by rw [h]) e)]
        rcases q5 with ⟨rfl, hσ⟩ | ⟨q', sv, hσ, rfl, h⟩
        · rw [hσ] at e; cases e
        · rw [hσ] at e; injection e with e; subst e
          rw [List.singleton_append, get_cons, if_pos rfl]
          rcases h with h | ⟨hf, iv, b, d, e1, e2⟩
          · exact .inl h
          · exact .inr ⟨by rw [hf]; simp, iv, b, d, e1, e2⟩
      · intro q e1 e2
        rw [get_cons, if_neg (by rintro h; injection h with h; exact e1 (by rw [h]))]
        rcases q5 with ⟨rfl, hσ⟩ | ⟨q', sv, hσ, rfl, h⟩
        · rfl
        · rw [List.singleton_append, get_cons, if_neg (by rintro h; injection h with h; exact e2 (by rw [hσ, h]))]
    · exact hu.elim
  | _ => exact hu.elim

end
end Go.Tm
