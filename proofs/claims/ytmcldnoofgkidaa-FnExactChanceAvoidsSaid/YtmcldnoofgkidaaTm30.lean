/- The T-machine: a function's body. -/
import Derived.Test.YtmcldnoofgkidaaTm29
set_option linter.unusedVariables false
set_option linter.unusedSimpArgs false
namespace Go.Tm
open Go.RowKit

/-! ### What leaves a function -/
structure Mv where
  τ : Nat
  row : Option Nat
  σ : Option Nat

def Mv.fits (φ : Lab → Lab) (m : Mv) : Prop := match m.σ with
  | none => ∀ p, φ (.ow m.τ p) = .im
  | some σ => match m.row with
    | none => ∀ p, φ (.ow m.τ p) = .ow σ p
    | some j => φ (.ow m.τ (some j)) = .ow σ none

def OutOK (E : El) (G : Gh) (w : World) (B : Nat → Nat) (σ : Nat) (v : Value) (c : CV) (L : List Mv) : Prop :=
  ∀ φ : Lab → Lab, φ .im = .im → (∀ m ∈ L, m.fits φ) → CVR E (fun g => φ (G.O g)) w B σ v c

def UsedOK (used used' : List Nat) (L : List Mv) : Prop := (∀ τ, τ ∈ used' ↔ τ ∈ used ∨ τ ∈ L.map Mv.τ) ∧ (∀ m ∈ L, m.τ ∉ used) ∧ (L.map Mv.τ).Nodup

theorem UsedOK.nil (used : List Nat) : UsedOK used used [] := ⟨by simp, by simp, by simp⟩
theorem UsedOK.one {used : List Nat} (m : Mv) (h : m.τ ∉ used) : UsedOK used (m.τ :: used) [m] := by
  refine ⟨fun τ => ?_, fun x hx => ?_, by simp⟩
  · simp only [List.mem_cons, List.map_cons, List.map_nil, List.not_mem_nil, or_false]
    exact ⟨fun h => h.elim .inr .inl, fun h => h.elim .inr .inl⟩
  · simp only [List.mem_singleton] at hx; subst hx; exact h
theorem UsedOK.trans {a b c : List Nat} {L M : List Mv} (h : UsedOK a b L) (k : UsedOK b c M) : UsedOK a c (L ++ M) := by
  obtain ⟨h1, h2, h3⟩ := h
  obtain ⟨k1, k2, k3⟩ := k
  refine ⟨fun τ => ?_, fun m hm => ?_, ?_⟩
  · rw [k1, h1, List.map_append, List.mem_append, or_assoc]
  · rcases List.mem_append.1 hm with hm | hm
    · exact h2 m hm
    · exact fun ha => k2 m hm ((h1 m.τ).2 (.inl ha))
  · rw [List.map_append, List.nodup_append]
    refine ⟨h3, k3, fun x hx y hy e => ?_⟩
    subst e
    obtain ⟨m, hm, rfl⟩ := List.mem_map.1 hy
    exact k2 m hm ((h1 _).2 (.inr hx))

theorem OutOK.mono {E : El} {G : Gh} {w : World} {B : Nat → Nat} {σ : Nat} {v : Value} {c : CV} {L M : List Mv} (h : OutOK E G w B σ v c L) (hs : ∀ m ∈ L, m ∈ M) : OutOK E G w B σ v c M :=
  fun φ h1 h2 => h φ h1 fun m hm => h2 m (hs m hm)

theorem hasNat_iff {τ : Nat} {used : List Nat} : used.any (Nat.beq τ) = true ↔ τ ∈ used := by
  simp only [List.any_eq_true, Nat.beq_eq, exists_eq_right']

def resOne (tmps : Array Value) : ResultVar → Sem Value
  | .tmp t => pure (tmps.getD t undef)
  | .cell a t => do loadVar t (← asAddr (tmps.getD a undef))

theorem list_results {P : Program} {w : World} {tmps : Array Value} : ∀ (rvs : List ResultVar) (vals : List Value), vals.length = rvs.length →
    (∀ (j : Nat) rv, rvs[j]? = some rv → ∃ v, vals[j]? = some v ∧ (resOne tmps rv).run P w = .ok v w) → (rvs.mapM (resOne tmps)).run P w = .ok vals w
  | [], [], _, _ => rfl
  | rv :: rvs, v :: vals, hl, h => by
    obtain ⟨v', h1, h2⟩ := h 0 rv rfl
    simp at h1
    subst h1
    have := list_results rvs vals (by simpa using hl) fun j rv hj => by simpa using h (j + 1) rv (by simpa using hj)
    simp only [List.mapM_cons, Sem.run_bind, h2, Result.andThen_ok, this, Sem.run_pure]
  | [], _ :: _, hl, _ => by simp at hl
  | _ :: _, [], hl, _ => by simp at hl

theorem run_results {P : Program} {w : World} {fn : Func} {tmps : Array Value} {vals : List Value} (hl : vals.length = fn.results.size)
    (h : ∀ (j : Nat) rv, fn.results[j]? = some rv → ∃ v, vals[j]? = some v ∧ (resOne tmps rv).run P w = .ok v w) : (results fn tmps).run P w = .ok (resVal vals) w := by
  have hm := list_results (P := P) (w := w) (tmps := tmps) fn.results.toList vals (by simpa using hl) (fun j rv hj => h j rv (by simpa using hj))
  have he : results fn tmps = (do let vs ← fn.results.mapM (resOne tmps); pure (if h : vs.size = 1 then vs[0] else .tuple vs)) := by
    unfold results
    congr 1
  rw [he, Array.mapM_eq_mapM_toList]
  simp only [Sem.run_bind, Sem.run_map, hm, Result.andThen_ok, Sem.run_pure]
  match vals with
  | [] => rfl
  | [v] => rfl
  | v :: v' :: vs => simp [resVal]

theorem vp_nil0 {O : Lbl} {w : World} {x : PV} (h : (NlM.im x).ok = true) : VP O w (.slice none 0 0) x := by
  cases x with
  | ints k xs => cases xs with
    | nil => exact ⟨none, 0, rfl, Nat.le_refl _, Nat.zero_le _, fun h => absurd rfl h⟩
    | cons => cases h
  | strs xs => cases xs with
    | nil => exact ⟨none, 0, rfl, Nat.le_refl _, Nat.zero_le _, fun h => absurd rfl h⟩
    | cons => cases h
  | rows xs => cases xs with
    | nil => exact ⟨[], ⟨none, 0, rfl, Nat.le_refl _, Nat.zero_le _, fun h => absurd rfl h⟩, rfl, fun j h xs hh => by simp at hh⟩
    | cons => cases h
  | _ => cases h

section
variable {P : Program} {K : Kf} {E : El} {n : Nat} {G : Gh} {s : St} {a : Act} {w : World} {CR : CRel} {o : Oper} {u : St}

theorem outCV_spec (R : Rel E n G s a w) {im : Bool} {T : Option TypeId} {used : List Nat} {v : VV} {val : Value} {k : CV → List Nat → Option RT} {r : RT} (B : Nat → Nat) (σ : Nat) (hv : VR G s w val v) (h : outCV K im T s used v k = some r) :
    ∃ c used' L, k c used' = some r ∧ UsedOK used used' L ∧ OutOK E G w B σ val c L := by
  unfold outCV at h
  dsimp only at h
  have emp : ∀ (φ : Lab → Lab) e, val = .slice none 0 0 → SlO (fun g => φ (G.O g)) w (.ow σ none) e val [] := by
    intro φ e hval
    subst hval
    exact ⟨⟨rfl, .inl ⟨rfl, rfl⟩⟩, fun g hg => absurd hg (by simp [Value.ownBlock])⟩
  have whole : ∀ {τ : Nat} {c : Ct}, VC E G.O w τ val c → OutOK E G w B σ val (.ow c) [⟨τ, none, some σ⟩] := by
    intro τ c hc φ h1 h2
    have hf := h2 _ (List.mem_singleton.2 rfl)
    exact hc.moveOwn (.inr fun g hg => by rw [hg, h1]) fun g p hg => by rw [hg]; exact hf p
  have pure' : ∀ {x : PV}, VP G.O w val x → OutOK E G w B σ val (.sc x) [] := by
    intro x hx φ h1 _
    exact VP.keep (w := w) (w' := w) hx fun g hg => ⟨by show φ (G.O g) = _; rw [hg, h1], rfl⟩
  have lent : ∀ {τ : Nat} {c : Ct} {hv : Value}, VC E G.O w τ hv c → (∀ k xss, c ≠ .hole k xss) → ∀ (x : PV), (∀ O', VP O' w hv c.pv → VP O' w val x) → OutOK E G w B σ val (.sc x) [⟨τ, none, none⟩] := by
    intro τ c hv' hc hnh x hx φ h1 h2
    have hf : ∀ p, φ (.ow τ p) = .im := h2 _ (List.mem_singleton.2 rfl)
    exact hx _ (hc.lent hnh (fun g hg => by show φ (G.O g) = _; rw [hg, h1]) fun g p hg => by show φ (G.O g) = _; rw [hg, hf p])
  split at h
  · -- nil
    have hval : val = .slice none 0 0 := hv
    have imn : ∀ x, (NlM.im x).ok = true → OutOK E G w B σ val (.sc x) [] := fun x hx φ _ _ => by
      show VP _ w val x
      rw [hval]; exact vp_nil0 hx
    split at h
    · rename_i T
      split at h
      · cases im with
        | true => exact ⟨_, _, [], h, UsedOK.nil _, imn _ rfl⟩
        | false => exact ⟨_, _, [], h, UsedOK.nil _, fun φ _ _ => emp φ _ hval⟩
      · cases im with
        | true => exact ⟨_, _, [], h, UsedOK.nil _, imn _ rfl⟩
        | false => exact ⟨_, _, [], h, UsedOK.nil _, fun φ _ _ => emp φ _ hval⟩
      · cases im with
        | true => exact ⟨_, _, [], h, UsedOK.nil _, imn _ rfl⟩
        | false => exact ⟨_, _, [], h, UsedOK.nil _, fun φ _ _ => ⟨[], emp φ _ hval, rfl, fun j h xs hh => by simp at hh⟩⟩
      · cases h
    · exact ⟨_, _, [], h, UsedOK.nil _, pure' (x := .nil) hval⟩
  · rename_i x _
    exact ⟨_, _, [], h, UsedOK.nil _, pure' (x := x) hv⟩
  · rename_i τ
    cases hu : used.any (Nat.beq τ) with
    | true => rw [hu] at h; cases h
    | false =>
      rw [hu] at h
      simp only [cond_false] at h
      have hnu : τ ∉ used := fun hm => by rw [hasNat_iff.2 hm] at hu; cases hu
      split at h
      · cases h
      · rename_i iv c hnh hc
        have e : val = G.H τ := hv.2 (by rw [hc]; rfl)
        cases im with
        | false => exact ⟨_, _, [⟨τ, none, some σ⟩], h, UsedOK.one ⟨τ, none, some σ⟩ hnu, whole (by rw [e]; exact R.toks τ _ _ hc)⟩
        | true => exact ⟨_, _, [⟨τ, none, none⟩], h, UsedOK.one ⟨τ, none, none⟩ hnu, lent (R.toks τ _ _ hc) (fun k xss e => hnh k xss e) _ fun O' hx => by rw [e]; exact hx⟩
      · rename_i x hc
        have e : val = G.H τ := hv.2 (by rw [hc]; rfl)
        exact ⟨_, _, [], h, UsedOK.nil _, pure' (by rw [e]; exact R.froz τ _ hc)⟩
      · cases h
  · rename_i τ lo m
    cases hu : (used.any (Nat.beq τ) || (!im && !Nat.beq lo 0)) with
    | true => rw [hu] at h; cases h
    | false =>
      rw [hu] at h
      simp only [cond_false] at h
      simp only [Bool.or_eq_false_iff] at hu
      have hnu : τ ∉ used := fun hm => by rw [hasNat_iff.2 hm] at hu; cases hu.1
      split at h
      · cases h
      · rename_i iv c hnh hc
        have e : IsWin (G.H τ) val lo m := hv.2 (by rw [hc]; rfl)
        cases im with
        | false =>
          have hlo : lo = 0 := by have := hu.2; simpa using this
          subst hlo
          exact ⟨_, _, [⟨τ, none, some σ⟩], h, UsedOK.one ⟨τ, none, some σ⟩ hnu, whole ((R.toks τ _ _ hc).cut e)⟩
        | true => exact ⟨_, _, [⟨τ, none, none⟩], h, UsedOK.one ⟨τ, none, none⟩ hnu, lent (R.toks τ _ _ hc) (fun k xss e => hnh k xss e) _ fun O' hx => hx.cutw e⟩
      · rename_i x hc
        have e : IsWin (G.H τ) val lo m := hv.2 (by rw [hc]; rfl)
        exact ⟨_, _, [], h, UsedOK.nil _, pure' ((R.froz τ _ hc).cutw e)⟩
      · cases h
  · rename_i τ iv j
    cases hu : used.any (Nat.beq τ) with
    | true => rw [hu] at h; cases h
    | false =>
      rw [hu] at h
      simp only [cond_false] at h
      have hnu : τ ∉ used := fun hm => by rw [hasNat_iff.2 hm] at hu; cases hu
      split at h
      · rename_i iv' xss hc
        cases hb : Nat.beq iv iv' with
        | false => rw [hb] at h; cases h
        | true =>
          rw [hb] at h
          simp only [cond_true] at h
          rw [Nat.beq_eq] at hb
          subst hb
          obtain ⟨m, q1, q2⟩ := (hv.2 _ _ hc).2 rfl
          have hj : j < xss.length := by
            simp only [rowLen] at q1
            cases hx : xss[j]? with
            | none => rw [hx] at q1; cases q1
            | some y => exact (List.getElem?_eq_some_iff.1 hx).1
          obtain ⟨hs, h3, h4, h5⟩ := R.toks τ _ _ hc
          have hj' : j < hs.length := by omega
          obtain ⟨g, cap, e1, e2, e3, _⟩ := h3.cell (List.getElem?_eq_getElem hj')
          have e4 : val = hs[j] := by
            rw [e1] at q2
            simp only [cellOf, add0] at q2
            rw [e3] at q2
            injection q2 with q2
            exact q2.symm
          subst e4
          have h6 := (h5 j _ _ (List.getElem?_eq_getElem hj') (List.getElem?_eq_getElem hj)).1 rfl
          have ed : xss.getD j [] = xss[j] := by simp [List.getD_eq_getElem?_getD, List.getElem?_eq_getElem hj]
          cases im with
          | false =>
            refine ⟨_, _, [⟨τ, some j, some σ⟩], h, UsedOK.one ⟨τ, some j, some σ⟩ hnu, fun φ h1 h2 => ?_⟩
            have hf : φ (.ow τ (some j)) = .ow σ none := h2 _ (List.mem_singleton.2 rfl)
            show SlO _ w (.ow σ none) (E.eI .i64) _ (vints .i64 (xss.getD j []))
            rw [ed]
            exact h6.keep fun g hg _ => ⟨by show φ (G.O g) = _; rw [hg]; exact hf, rfl⟩
          | true =>
            refine ⟨_, _, [⟨τ, none, none⟩], h, UsedOK.one ⟨τ, none, none⟩ hnu, fun φ h1 h2 => ?_⟩
            have hf : ∀ p, φ (.ow τ p) = .im := h2 _ (List.mem_singleton.2 rfl)
            show VP (fun g => φ (G.O g)) w _ (.ints .i64 (xss.getD j []))
            rw [ed]
            exact SlO.lent h6 fun g hg => by show φ (G.O g) = _; rw [hg]; exact hf _
      · cases h
  · cases h

theorem load_box (hK : TyOK P K E) (R : Rel E n G s a w) {b : Key} {v : VV} {U : TypeId} (hb : s.get (.box b) = .v v) (hf : loadFit (K U) v = true) :
    ∃ val, VR G s w val v ∧ (loadVar U ⟨G.B b, 0, none⟩).run P w = .ok val w := by
  have hT := hK U
  have one : (K U).one = true → v.one = true → ∃ val, VR G s w val v ∧ (loadVar U ⟨G.B b, 0, none⟩).run P w = .ok val w := by
    intro h1 h2
    rcases R.boxes b _ hb with h | ⟨r1, val, e, r2, r3⟩
    · subst h; simp [VV.one] at h2
    · have hs := r3.sgl h2
      obtain ⟨d, t1, t2, _⟩ := oneTy hK h1
      refine ⟨val, r3, ?_⟩
      have hagg : (isAgg U).run P w = .ok false w := by
        unfold isAgg
        cases d <;> simp_all [run_underlying t1, aggD, go_sem]
      have hc : w.cell? ⟨G.B b, 0, none⟩ = some val := by simp [World.cell?, r2, hs.cells]
      simp [loadVar, hagg, hc, go_sem]
  cases v with
  | sc x =>
    cases x with
    | arr k m xs =>
      simp only [loadFit] at hf
      rcases R.boxes b _ hb with h | ⟨r1, val, e, r2, r3⟩
      · cases h
      · cases hk : K U with
        | arr k' m' =>
          rw [hk] at hT hf
          have hm' : m = m' := by simpa using hf
          subst hm'
          obtain ⟨el, h1, ⟨i, h2, h3, _⟩, _⟩ := hT
          obtain ⟨e1, e2⟩ := (show val = .agg (vints k xs).toArray ∧ xs.length = m from r3)
          subst e1
          refine ⟨_, r3, ?_⟩
          have hagg : (isAgg U).run P w = .ok true w := by
            unfold isAgg
            simp [run_underlying h1, go_sem]
          have hl := run_loadCells_row (P := P) (w := w) (G.B b) (vints k xs).toArray e _ r2
          have hs : i.size = (vints k xs).toArray.size := by simp [h3, vints, e2]
          unfold loadCells at hl
          simp [loadVar, hagg, loadCells, sizeOf, typeInfo, h2, hs, go_sem]
          simp at hl
          rw [hl]
          rfl
        | _ => rw [hk] at hf; cases hf
    | _ => simp only [loadFit, Bool.and_eq_true] at hf; exact one hf.1 hf.2
  | _ => simp only [loadFit, Bool.and_eq_true] at hf; exact one hf.1 hf.2

theorem outRes_spec (hK : TyOK P K E) (R : Rel E n G s a w) (B : Nat → Nat) (im : Nat → Bool) {r : RT} : ∀ (rvs : List (ResultVar × TypeId)) (i : Nat) (used : List Nat) (k : List CV → List Nat → Option RT), outRes K im s i rvs used k = some r →
    ∃ (cs : List CV) (used' : List Nat) (L : List Mv) (vals : List Value), k cs used' = some r ∧ UsedOK used used' L ∧ cs.length = rvs.length ∧ vals.length = rvs.length ∧
      (∀ (j : Nat) rv T, rvs[j]? = some (rv, T) → ∃ v, vals[j]? = some v ∧ (resOne a.tmps rv).run P w = .ok v w) ∧ ∀ (j : Nat) v c, vals[j]? = some v → cs[j]? = some c → OutOK E G w B (resN (i + j)) v c L := by
  intro rvs
  induction rvs with
  | nil => intro i used k h; exact ⟨[], used, [], [], h, UsedOK.nil _, rfl, rfl, fun j rv T h => by simp at h, fun j v c h => by simp at h⟩
  | cons p rvs ih =>
    intro i used k h
    have fin : ∀ (v : VV) (val : Value) (T : TypeId) (rv : ResultVar), VR G s w val v → (resOne a.tmps rv).run P w = .ok val w → outCV K (im i) (some T) s used v (fun c used' => outRes K im s (i + 1) rvs used' fun cs used'' => k (c :: cs) used'') = some r →
      ∃ (cs : List CV) (used' : List Nat) (L : List Mv) (vals : List Value), k cs used' = some r ∧ UsedOK used used' L ∧ cs.length = rvs.length + 1 ∧ vals.length = rvs.length + 1 ∧
      (∀ (j : Nat) rv' T', ((rv, T) :: rvs)[j]? = some (rv', T') → ∃ v, vals[j]? = some v ∧ (resOne a.tmps rv').run P w = .ok v w) ∧ ∀ (j : Nat) v c, vals[j]? = some v → cs[j]? = some c → OutOK E G w B (resN (i + j)) v c L := by
      intro v val T rv hv hrun h
      obtain ⟨c, used1, L1, h1, u1, o1⟩ := outCV_spec R B (resN i) hv h
      obtain ⟨cs, used2, L2, vals, h2, u2, l1, l2, r1, o2⟩ := ih (i + 1) used1 _ h1
      refine ⟨c :: cs, used2, L1 ++ L2, val :: vals, h2, u1.trans u2, by simp [l1], by simp [l2], fun j rv' T' hj => ?_, fun j v' c' h3 h4 => ?_⟩
      · cases j with
        | zero => simp at hj; obtain ⟨rfl, rfl⟩ := hj; exact ⟨val, rfl, hrun⟩
        | succ j => simpa using r1 j rv' T' (by simpa using hj)
      · cases j with
        | zero => simp at h3 h4; subst h3; subst h4; exact o1.mono fun m hm => List.mem_append_left _ hm
        | succ j =>
          have := o2 j v' c' (by simpa using h3) (by simpa using h4)
          rw [show i + 1 + j = i + (j + 1) by omega] at this
          exact this.mono fun m hm => List.mem_append_right _ hm
    obtain ⟨rv, T⟩ := p
    cases rv with
    | tmp t =>
      simp only [outRes] at h
      split at h
      · rename_i v hv
        exact fin v _ T (.tmp t) (R.slots t v hv) rfl h
      · cases h
    | cell t U =>
      simp only [outRes] at h
      split at h
      · rename_i b hv
        split at h
        · rename_i v hb
          cases hf : loadFit (K U) v with
          | false => rw [hf] at h; cases h
          | true =>
            rw [hf] at h
            obtain ⟨val, h1, h2⟩ := load_box hK R hb hf
            have h3 : a.tmps.getD t undef = .pointer (some ⟨G.B b, 0, none⟩) := R.slots t _ hv
            exact fin v val T (.cell t U) h1 (by simp only [resOne, h3]; rw [show asAddr (.pointer (some ⟨G.B b, 0, none⟩)) = (pure ⟨G.B b, 0, none⟩ : Sem Addr) from rfl, pure_bind]; exact h2) h
        · cases h
      · cases h

theorem parIdxs_spec : ∀ (cs : List Key) (js : List Nat), parIdxs cs = some js → cs = js.map .par
  | [], js, h => by simp [parIdxs] at h; subst h; rfl
  | .par j :: cs, js, h => by
    simp only [parIdxs, Option.map_eq_some_iff] at h
    obtain ⟨js', h1, rfl⟩ := h
    rw [parIdxs_spec cs js' h1]; rfl
  | .own t :: cs, js, h => by simp [parIdxs] at h

theorem outBox_spec (R : Rel E n G s a w) {r : RT} : ∀ (m j : Nat) (used : List Nat) (k : List CV → Option RT), outBox K s j m used k = some r →
    ∃ (cs : List CV) (used' : List Nat) (L : List Mv), k cs = some r ∧ UsedOK used used' L ∧ cs.length = m ∧
      ∀ (i : Nat) c, cs[i]? = some c → ∃ v e, G.O (E.BP (j + i)) = .bx (.par (j + i)) ∧ w.heap[E.BP (j + i)]? = some (.cells v.cells e (0, 0)) ∧ OutOK E G w E.BP (boxN (j + i)) v c L := by
  intro m
  induction m with
  | zero => intro j used k h; exact ⟨[], used, [], h, UsedOK.nil _, rfl, fun i c h => by simp at h⟩
  | succ m ih =>
    intro j used k h
    have fin : ∀ (c : CV) (used1 : List Nat) (L1 : List Mv), UsedOK used used1 L1 → (∃ v e, G.O (E.BP j) = .bx (.par j) ∧ w.heap[E.BP j]? = some (.cells v.cells e (0, 0)) ∧ OutOK E G w E.BP (boxN j) v c L1) →
        outBox K s (j + 1) m used1 (fun r => k (c :: r)) = some r →
        ∃ (cs : List CV) (used' : List Nat) (L : List Mv), k cs = some r ∧ UsedOK used used' L ∧ cs.length = m + 1 ∧
          ∀ (i : Nat) c, cs[i]? = some c → ∃ v e, G.O (E.BP (j + i)) = .bx (.par (j + i)) ∧ w.heap[E.BP (j + i)]? = some (.cells v.cells e (0, 0)) ∧ OutOK E G w E.BP (boxN (j + i)) v c L := by
      intro c used1 L1 u1 ⟨v, e, o1, o2, o3⟩ h
      obtain ⟨cs, used2, L2, h2, u2, l1, o4⟩ := ih (j + 1) used1 _ h
      refine ⟨c :: cs, used2, L1 ++ L2, h2, u1.trans u2, by simp [l1], fun i c' hc => ?_⟩
      cases i with
      | zero => simp at hc; subst hc; exact ⟨v, e, o1, o2, o3.mono fun m hm => List.mem_append_left _ hm⟩
      | succ i =>
        obtain ⟨v', e', p1, p2, p3⟩ := o4 i c' (by simpa using hc)
        rw [show j + 1 + i = j + (i + 1) by omega] at p1 p2 p3
        exact ⟨v', e', p1, p2, p3.mono fun m hm => List.mem_append_right _ hm⟩
    have bx : ∀ v, s.get (.box (.par j)) = .v v → v ≠ .un → ∃ val e, G.O (E.BP j) = .bx (.par j) ∧ w.heap[E.BP j]? = some (.cells val.cells e (0, 0)) ∧ VR G s w val v := by
      intro v hv hne
      rcases R.boxes _ _ hv with h | ⟨h1, val, e, h2, h3⟩
      · exact absurd h hne
      · rw [R.par j] at h1 h2
        exact ⟨val, e, h1, h2, h3⟩
    simp only [outBox] at h
    split at h
    · rename_i f cs hv
      split at h
      · rename_i js hjs
        obtain ⟨val, e, h1, h2, h3⟩ := bx _ hv (by simp)
        refine fin _ used [] (UsedOK.nil _) ⟨val, e, h1, h2, fun φ _ _ => ?_⟩ h
        have h3' : val = .func (.func f) #[] (cs.map (capV G.B)).toArray := h3
        show val = _
        rw [h3', parIdxs_spec cs js hjs, List.map_map]
        congr 2
        refine List.map_congr_left fun x _ => ?_
        simp only [Function.comp, capV, R.par]
      · cases h
    · rename_i hv
      obtain ⟨val, e, h1, h2, h3⟩ := bx _ hv (by simp)
      exact fin .nf used [] (UsedOK.nil _) ⟨val, e, h1, h2, fun φ _ _ => h3⟩ h
    · rename_i v _ _ hv
      by_cases hun : v = .un
      · subst hun; simp [outCV] at h
      · obtain ⟨val, e, h1, h2, h3⟩ := bx _ hv hun
        obtain ⟨c, used1, L1, h4, u1, o1⟩ := outCV_spec R E.BP (boxN j) h3 h
        exact fin c used1 L1 u1 ⟨val, e, h1, h2, o1⟩ h4
    · cases h
end
end Go.Tm
