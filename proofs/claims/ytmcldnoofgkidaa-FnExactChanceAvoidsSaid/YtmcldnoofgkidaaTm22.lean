/- The T-machine: regions that draw their order are as the text's. -/
import Derived.Test.YtmcldnoofgkidaaTm21
set_option linter.unusedVariables false
set_option linter.unusedSimpArgs false
namespace Go.Tm
open Go.RowKit

/-- The state behind the operations of D, the text's latest first. -/
def sd (up : Nat → St) (D : Nat → Bool) (s : St) : Nat → St
  | 0 => s
  | m + 1 => bif D m then up m ++ sd up D s m else sd up D s m

theorem sd_congr {up : Nat → St} {D D' : Nat → Bool} {s : St} : ∀ k, (∀ m, m < k → D m = D' m) → sd up D s k = sd up D' s k
  | 0, _ => rfl
  | k + 1, h => by simp only [sd]; rw [h k (by omega), sd_congr k fun m hm => h m (by omega)]

theorem sd_all (up : Nat → St) (s : St) : ∀ k, sd up (fun _ => true) s k = Sx up 0 s k
  | 0 => rfl
  | k + 1 => by simp only [sd, Sx, cond_true, Nat.zero_add]; rw [sd_all up s k]

def cnt (D : Nat → Bool) : Nat → Nat
  | 0 => 0
  | m + 1 => cnt D m + (bif D m then 0 else 1)

theorem cnt_zero {D : Nat → Bool} : ∀ {k}, cnt D k = 0 → ∀ m, m < k → D m = true
  | 0, _, m, hm => by omega
  | k + 1, h, m, hm => by
    simp only [cnt] at h
    by_cases e : m = k
    · subst e; cases hD : D m with
      | true => rfl
      | false => rw [hD] at h; simp at h
    · exact cnt_zero (k := k) (by omega) m (by omega)

theorem cnt_set {D D' : Nat → Bool} {i : Nat} (h0 : D i = false) (h1 : D' i = true) (h : ∀ m, m ≠ i → D' m = D m) : ∀ k, i < k → cnt D' k + 1 = cnt D k
  | 0, hk => by omega
  | k + 1, hk => by
    simp only [cnt]
    by_cases e : i = k
    · subst e
      have : ∀ q, q ≤ i → cnt D' q = cnt D q := by
        intro q
        induction q with
        | zero => intro _; rfl
        | succ q ih => intro hq; simp only [cnt]; rw [ih (by omega), h q (by omega)]
      rw [this i (Nat.le_refl _), h0, h1]; simp
    · have := cnt_set h0 h1 h k (by omega)
      rw [h k (fun h => e h.symm)]
      omega

theorem least {D : Nat → Bool} : ∀ k, (∃ m, m < k ∧ D m = false) → ∃ i, i < k ∧ D i = false ∧ ∀ m, m < i → D m = true
  | 0, ⟨m, hm, _⟩ => by omega
  | k + 1, ⟨m, hm, hD⟩ => by
    by_cases e : ∃ m, m < k ∧ D m = false
    · obtain ⟨i, h1, h2⟩ := least k e
      exact ⟨i, by omega, h2⟩
    · have hk : ∀ q, q < k → D q = true := fun q hq => by
        cases h : D q with
        | true => rfl
        | false => exact absurd ⟨q, hq, h⟩ e
      have : m = k := by
        rcases Nat.lt_or_ge m k with h | h
        · rw [hk m h] at hD; cases hD
        · omega
      subst this
      exact ⟨m, by omega, hD, hk⟩

theorem backOk_at : ∀ (os : List Oper) (i : Nat), backOk i os = true → ∀ m o, os[m]? = some o → ∀ e ∈ o.after.toList, Region.binds .any e = true → e.on < i + m
  | [], i, _, m, o, h => by simp at h
  | o :: os, i, h, m, o', hm => by
    simp only [backOk, Bool.and_eq_true, List.all_eq_true] at h
    cases m with
    | zero =>
      simp only [List.getElem?_cons_zero, Option.some.injEq] at hm
      subst hm
      intro e he hb
      have := h.1 e he
      rw [hb] at this
      simpa [Nat.blt_eq] using this
    | succ m =>
      intro e he hb
      have := backOk_at os (i + 1) h.2 m o' (by simpa using hm) e he hb
      omega

def Closed (ops : Array Oper) (D : Nat → Bool) : Prop := ∀ i o, D i = true → ops[i]? = some o → ∀ e ∈ o.after.toList, Region.binds .any e = true → D e.on = true

theorem mb_closed {ops : Array Oper} {D : Nat → Bool} (hc : Closed ops D) : ∀ (f j i : Nat) (o : Oper), ops[i]? = some o → (∀ e ∈ o.after.toList, Region.binds .any e = true → D e.on = true) → mustBefore ops f j i = true → D j = true
  | 0, j, i, o, _, _, h => by cases h
  | f + 1, j, i, o, ho, he, h => by
    unfold mustBefore at h
    rw [ho] at h
    simp only [List.any_eq_true, Bool.and_eq_true, Bool.or_eq_true, Nat.beq_eq] at h
    obtain ⟨e, h1, h2, h3⟩ := h
    have hD := he e h1 h2
    rcases h3 with h3 | h3
    · rw [← h3]; exact hD
    · cases ho' : ops[e.on]? with
      | none => cases f with
        | zero => cases h3
        | succ f => unfold mustBefore at h3; rw [ho'] at h3; cases h3
      | some o' => exact mb_closed hc f j e.on o' ho' (hc e.on o' hD ho') h3

theorem allocDst_one {o : Oper} {x : Nat} {l : List Nat} (h : allocDst o = x :: l) : l = [] := by
  unfold allocDst at h
  split at h
  · split at h
    · injection h with _ h; exact h.symm
    · cases h
  · split at h
    · injection h with _ h; exact h.symm
    · cases h
  · cases h

theorem allocN_mem {o : Oper} {t : Nat} (h : t ∈ allocDst o) : 200000000 + t ∈ allocN o := by
  unfold allocN
  split
  · rename_i e; rw [e] at h; simp at h
  · rename_i x l e
    rw [e, allocDst_one e] at h
    simp at h
    simp [h]

theorem allocDsts_mem {o : Oper} {os : List Oper} (ho : o ∈ os) {t : Nat} (h : t ∈ allocDst o) : t ∈ allocDsts os := by
  induction os with
  | nil => simp at ho
  | cons x os ih =>
    rcases List.mem_cons.1 ho with rfl | ho
    · exact allocDsts_cons _ _ t (.inl h)
    · exact allocDsts_cons _ _ t (.inr (ih ho))

section
variable {P : Program} {K : Kf} {E : El} {n : Nat} {G : Gh} {s : St} {a : Act} {w : World} {CR : CRel} {o : Oper} {u : St} {X : Env}

theorem Rel.drew (R : Rel E n G s a w) : Rel E n G s a w.drew := by
  have hts : ∀ σ, TokStep G s w G s w.drew σ := fun σ => TokStep.same rfl rfl fun _ _ _ _ _ _ => rfl
  exact R.step R.size R.defers (fun g h => ⟨h, rfl⟩) (fun t v hv => .inl ⟨hv, rfl, fun σ _ => hts σ, fun _ _ => rfl⟩) (fun b v hv => .inr (.inl ⟨hv, rfl, fun h => ⟨h, rfl⟩, fun σ _ => hts σ, fun _ _ => rfl⟩))
    (fun τ iv c hc => .inl ⟨⟨iv, hc⟩, rfl, fun g p h _ => ⟨h, rfl⟩⟩) (fun τ x hx => .inl ⟨hx, rfl⟩) R.fresh

/-- What is known of the text's run. -/
structure Run (CR : CRel) (K : Kf) (ops : Array Oper) (s : St) (tf : Nat → Tr) (up : Nat → St) : Prop where
  step : ∀ m o, ops[m]? = some o → StepT CR K ops o (Sx up 0 s m) (ops.toList.drop (m + 1)) (tf m) (up m)
  pair : ∀ m m', m' < m → m < ops.size → pairOk (tf m) (tf m') = true ∨ mustBefore ops 30 m' m = true
  back : ∀ m o, ops[m]? = some o → ∀ e ∈ o.after.toList, Region.binds .any e = true → e.on < m
  pts : ∀ t ∈ allocDsts ops.toList, noPts t s = true

section
variable {ops : Array Oper} {tf : Nat → Tr} {up : Nat → St} {D : Nat → Bool} {i : Nat}

theorem Run.later (H : Run CR K ops s tf up) (hc : Closed ops D) (hD : D i = false) {m : Nat} (hm : i < m) (hN : m < ops.size) (hDm : D m = true) : pairOk (tf m) (tf i) = true := by
  rcases H.pair m i hm hN with h | h
  · exact h
  · have ho : ops[m]? = some ops[m] := Array.getElem?_eq_getElem hN
    have := mb_closed hc 30 i m _ ho (hc m _ hDm ho) h
    rw [hD] at this; cases this

theorem Run.earlier (H : Run CR K ops s tf up) (hc : Closed ops D) (ho : ops[i]? = some o) (he : ∀ e ∈ o.after.toList, Region.binds .any e = true → D e.on = true) {m : Nat} (hm : m < i) (hDm : D m = false) : pairOk (tf i) (tf m) = true := by
  have hN : i < ops.size := (Array.getElem?_eq_some_iff.1 ho).1
  rcases H.pair i m hm hN with h | h
  · exact h
  · have := mb_closed hc 30 m i o ho he h
    rw [hDm] at this; cases this

theorem pairOk_iff {t v : Tr} (h : pairOk t v = true) : apart t.wr v.wr = true ∧ apart t.wr v.rd = true ∧ apart v.wr t.rd = true ∧ apartN t.cr v.rf = true ∧ apartN v.cr t.rf = true := by
  simp only [pairOk, Bool.and_eq_true] at h
  exact ⟨h.1.1.1.1, h.1.1.1.2, h.1.1.2, h.1.2, h.2⟩

theorem Run.wrOf (H : Run CR K ops s tf up) {m : Nat} (hm : m < ops.size) : (tf m).wr = locsOf (up m) := (H.step m _ (Array.getElem?_eq_getElem hm)).wr
theorem Run.rfOf (H : Run CR K ops s tf up) {m : Nat} (hm : m < ops.size) : (tf m).rf = refsOf (up m) := (H.step m _ (Array.getElem?_eq_getElem hm)).rf

/-- What the operation reads is as in the text's run. -/
theorem Run.reads (H : Run CR K ops s tf up) (hc : Closed ops D) (ho : ops[i]? = some o) (hD : D i = false) (he : ∀ e ∈ o.after.toList, Region.binds .any e = true → D e.on = true) {l : Loc} (hl : l ∈ (tf i).rd) :
    (sd up D s ops.size).get l = (Sx up 0 s i).get l := by
  have hN : i < ops.size := (Array.getElem?_eq_some_iff.1 ho).1
  have h1 : ∀ m, m ≤ i → (sd up D s m).get l = (Sx up 0 s m).get l := by
    intro m
    induction m with
    | zero => intro _; rfl
    | succ m ih =>
      intro hm
      have ih := ih (by omega)
      simp only [sd, Sx, Nat.zero_add]
      cases hDm : D m with
      | true => simp only [cond_true]; exact get_app_congr ih
      | false =>
        simp only [cond_false]
        have hp := (pairOk_iff (H.earlier hc ho he (by omega) hDm)).2.2.1
        have : l ∉ locsOf (up m) := fun hx => apart_iff hp (by rw [H.wrOf (by omega)]; exact hx) hl
        rw [get_out this]; exact ih
  have h2 : ∀ m, i ≤ m → m ≤ ops.size → (sd up D s m).get l = (sd up D s i).get l := by
    intro m
    induction m with
    | zero => intro h _; have : i = 0 := by omega
              subst this; rfl
    | succ m ih =>
      intro hm hs
      by_cases e : i = m + 1
      · rw [e]
      · have ih := ih (by omega) (by omega)
        simp only [sd]
        cases hDm : D m with
        | false => simp only [cond_false]; exact ih
        | true =>
          simp only [cond_true]
          by_cases e2 : m = i
          · subst e2; rw [hD] at hDm; cases hDm
          · have hp := (pairOk_iff (H.later hc hD (m := m) (by omega) (by omega) hDm)).2.1
            have : l ∉ locsOf (up m) := fun hx => apart_iff hp (by rw [H.wrOf (by omega)]; exact hx) hl
            rw [get_out this]; exact ih
  rw [h2 ops.size (by omega) (Nat.le_refl _), h1 i (Nat.le_refl _)]

/-- The state behind one operation more. -/
theorem Run.joins (H : Run CR K ops s tf up) (hc : Closed ops D) (hN : i < ops.size) (hD : D i = false) {D' : Nat → Bool} (h1 : D' i = true) (h : ∀ m, m ≠ i → D' m = D m) (l : Loc) :
    (sd up D' s ops.size).get l = St.get (up i ++ sd up D s ops.size) l := by
  have h2 : ∀ m, i < m → m ≤ ops.size → (sd up D' s m).get l = St.get (up i ++ sd up D s m) l := by
    intro m
    induction m with
    | zero => intro h _; omega
    | succ m ih =>
      intro hm hs
      by_cases e : m = i
      · subst e
        simp only [sd, h1, hD, cond_true, cond_false]
        rw [sd_congr m fun q hq => h q (by omega)]
      · have ih := ih (by omega) (by omega)
        simp only [sd, h m e]
        cases hDm : D m with
        | false => simp only [cond_false]; exact ih
        | true =>
          simp only [cond_true]
          have hp := (pairOk_iff (H.later hc hD (m := m) (by omega) (by omega) hDm)).1
          by_cases hl : l ∈ locsOf (up m)
          · have : l ∉ locsOf (up i) := fun hx => apart_iff hp (by rw [H.wrOf (by omega)]; exact hl) (by rw [H.wrOf hN]; exact hx)
            rw [get_out this]
            exact get_in hl _ _
          · rw [get_out hl, ih]
            exact get_app_congr (by rw [get_out hl])
  exact h2 ops.size hN (Nat.le_refl _)

theorem Run.freshRef (H : Run CR K ops s tf up) (hc : Closed ops D) (hN : i < ops.size) (hD : D i = false) {τ : Nat} (h0 : noRef τ (Sx up 0 s i) = true) (hcr : τ ∈ (tf i).cr) : noRef τ (sd up D s ops.size) = true := by
  have h1 : ∀ k, noRef τ (Sx up 0 s k) = true → noRef τ s = true ∧ ∀ m, m < k → noRef τ (up m) = true := by
    intro k
    induction k with
    | zero => intro h; exact ⟨h, fun m hm => by omega⟩
    | succ k ih =>
      intro h
      simp only [Sx, Nat.zero_add, noRef_append, Bool.and_eq_true] at h
      obtain ⟨a1, a2⟩ := ih h.2
      refine ⟨a1, fun m hm => ?_⟩
      by_cases e : m = k
      · subst e; exact h.1
      · exact a2 m (by omega)
  obtain ⟨a1, a2⟩ := h1 i h0
  have : ∀ m, m ≤ ops.size → noRef τ (sd up D s m) = true := by
    intro m
    induction m with
    | zero => intro _; exact a1
    | succ m ih =>
      intro hm
      simp only [sd]
      cases hDm : D m with
      | false => simp only [cond_false]; exact ih (by omega)
      | true =>
        simp only [cond_true, noRef_append, Bool.and_eq_true]
        refine ⟨?_, ih (by omega)⟩
        rcases Nat.lt_trichotomy m i with h | h | h
        · exact a2 m h
        · subst h; rw [hD] at hDm; cases hDm
        · have hp := (pairOk_iff (H.later hc hD h (by omega) hDm)).2.2.2.2
          have := apartN_iff hp hcr
          rw [H.rfOf (by omega)] at this
          exact noRef_refs this
  exact this _ (Nat.le_refl _)

theorem Run.freshPts (H : Run CR K ops s tf up) (hc : Closed ops D) (ho : ops[i]? = some o) (hD : D i = false) {t : Nat} (ht : t ∈ allocDst o) (hcr : 200000000 + t ∈ (tf i).cr) : noPts t (sd up D s ops.size) = true := by
  have hN : i < ops.size := (Array.getElem?_eq_some_iff.1 ho).1
  have hmem : o ∈ ops.toList := List.mem_of_getElem? (i := i) (by simpa using ho)
  have : ∀ m, m ≤ ops.size → noPts t (sd up D s m) = true := by
    intro m
    induction m with
    | zero => intro _; exact H.pts t (allocDsts_mem hmem ht)
    | succ m ih =>
      intro hm
      simp only [sd]
      cases hDm : D m with
      | false => simp only [cond_false]; exact ih (by omega)
      | true =>
        simp only [cond_true, noPts_append, Bool.and_eq_true]
        refine ⟨?_, ih (by omega)⟩
        rcases Nat.lt_trichotomy m i with h | h | h
        · refine ptsFree_mem (H.step m _ (Array.getElem?_eq_getElem (by omega))).pts (allocDsts_mem (o := o) ?_ ht)
          refine List.mem_of_getElem? (i := i - (m + 1)) ?_
          rw [List.getElem?_drop, show m + 1 + (i - (m + 1)) = i by omega]
          simpa using ho
        · subst h; rw [hD] at hDm; cases hDm
        · have hp := (pairOk_iff (H.later hc hD h (by omega) hDm)).2.2.2.2
          have := apartN_iff hp hcr
          rw [H.rfOf (by omega)] at this
          exact noPts_refs this
  exact this _ (Nat.le_refl _)
end

theorem draw_ok (hK : TyOK P K E) (hn : n ≤ 10000) (hC : CallsOK P K E n CR) {ops : Array Oper} {tf : Nat → Tr} {up : Nat → St} (H : Run CR K ops s tf up) (hd : ∀ o ∈ ops.toList, dstOk n o.dst = true) (Q : Exit → Act → World → Prop) (G0 : Gh) (w0 : World)
    (hQ : ∀ G' a' w', Rel E n G' (Sx up 0 s ops.size) a' w' → Fr G0.O w0 G'.O w' → Q .normal a' w') :
    ∀ (f : Nat) (L : Array Bool) (G : Gh) (a : Act) (w : World), L.size = ops.size → Closed ops (fun i => L.getD i false) → cnt (fun i => L.getD i false) ops.size = f → Rel E n G (sd up (fun i => L.getD i false) s ops.size) a w → Fr G0.O w0 G.O w →
      wpAny P .any ops Q f L a w := by
  have mem : ∀ (L : Array Bool) i, i ∈ Region.ready .any ops L ↔ ∃ o, ops[i]? = some o ∧ L.getD i true = false ∧ ∀ e ∈ o.after.toList, Region.binds .any e = true → L.getD e.on false = true := by
    intro L i
    unfold Region.ready
    rw [List.mem_filter, List.mem_range]
    constructor
    · rintro ⟨h1, h2⟩
      simp only [Bool.and_eq_true, Bool.not_eq_true'] at h2
      have ho : ops[i]? = some ops[i] := Array.getElem?_eq_getElem h1
      rw [ho] at h2
      refine ⟨_, ho, h2.1, fun e he hb => ?_⟩
      have h3 := h2.2
      simp only [Option.map_some, Option.getD_some] at h3
      rw [← Array.all_toList, List.all_eq_true] at h3
      have := h3 e he
      rw [hb] at this
      simpa using this
    · rintro ⟨o, ho, h1, h2⟩
      refine ⟨(Array.getElem?_eq_some_iff.1 ho).1, ?_⟩
      rw [ho, h1]
      simp only [Bool.not_false, Option.map_some, Option.getD_some, Bool.true_and]
      rw [← Array.all_toList, List.all_eq_true]
      intro e he
      cases hb : Region.binds .any e with
      | false => rfl
      | true => rw [h2 e he hb]; rfl
  have done : ∀ (L : Array Bool) G a w, L.size = ops.size → Region.ready .any ops L = [] → Rel E n G (sd up (fun i => L.getD i false) s ops.size) a w → Fr G0.O w0 G.O w → Q .normal a w := by
    intro L G a w hL hr R f
    have hall : ∀ m, m < ops.size → L.getD m false = true := by
      intro m hm
      cases hx : L.getD m false with
      | true => rfl
      | false =>
        obtain ⟨i, h1, h2, h3⟩ := least (D := fun i => L.getD i false) ops.size ⟨m, hm, hx⟩
        have ho : ops[i]? = some ops[i] := Array.getElem?_eq_getElem h1
        have : i ∈ Region.ready .any ops L := (mem L i).2 ⟨_, ho, by
          have hi : i < L.size := by omega
          simp only [Array.getD, hi, dif_pos] at h2 ⊢
          exact h2, fun e he hb => h3 e.on (H.back i _ ho e he hb)⟩
        rw [hr] at this
        simp at this
    have e : sd up (fun i => L.getD i false) s ops.size = Sx up 0 s ops.size := by
      rw [sd_congr (D' := fun _ => true) ops.size hall, sd_all]
    rw [e] at R
    exact hQ G a w R f
  intro f
  induction f with
  | zero =>
    intro L G a w hL hc hcnt R fr
    have hr : Region.ready .any ops L = [] := by
      rw [List.eq_nil_iff_forall_not_mem]
      intro i hi
      obtain ⟨o, ho, h1, _⟩ := (mem L i).1 hi
      have hN : i < ops.size := (Array.getElem?_eq_some_iff.1 ho).1
      have h2 : L.getD i false = true := cnt_zero hcnt i hN
      have hi : i < L.size := by omega
      simp only [Array.getD, hi, dif_pos] at h1 h2
      rw [h1] at h2; cases h2
    exact ⟨hr, done L G a w hL hr R fr⟩
  | succ f ih =>
    intro L G a w hL hc hcnt R fr
    refine ⟨fun hr => done L G a w hL hr R fr, fun i hi => ?_⟩
    obtain ⟨o, ho, h1, he⟩ := (mem L i).1 hi
    have hN : i < ops.size := (Array.getElem?_eq_some_iff.1 ho).1
    have hiL : i < L.size := by omega
    have hD : L.getD i false = false := by simp only [Array.getD, hiL, dif_pos] at h1 ⊢; exact h1
    have hD1 : (L.setIfInBounds i true).getD i false = true := by simp [Array.getD_eq_getD_getElem?, hiL]
    have hD2 : ∀ m, m ≠ i → (L.setIfInBounds i true).getD m false = L.getD m false := fun m hm => by simp [Array.getD_eq_getD_getElem?, Array.getElem?_setIfInBounds_ne (fun e => hm e.symm)]
    have hst := H.step i o ho
    have hrd : ∀ l ∈ (tf i).rd, (sd up (fun i => L.getD i false) s ops.size).get l = (Sx up 0 s i).get l := fun l hl => H.reads hc ho hD he hl
    have next : ∀ G' a' w', Rel E n G' (up i ++ sd up (fun i => L.getD i false) s ops.size) a' w' → Fr G.O w G'.O w' → wpAny P .any ops Q f (L.setIfInBounds i true) a' w' := by
      intro G' a' w' R' f'
      refine ih _ G' a' w' (by simp [hL]) (fun j o' hj ho' e he' hb => ?_) ?_ (R'.congr fun l => H.joins hc hN hD hD1 hD2 l) (fr.trans f')
      · have hj' : (L.setIfInBounds i true).getD j false = true := hj
        show (L.setIfInBounds i true).getD e.on false = true
        have key : L.getD e.on false = true → (L.setIfInBounds i true).getD e.on false = true := fun h => by
          by_cases e0 : e.on = i
          · rw [e0]; exact hD1
          · rw [hD2 _ e0]; exact h
        by_cases e0 : j = i
        · subst e0
          rw [ho] at ho'; injection ho' with ho'; subst ho'
          exact key (he e he' hb)
        · rw [hD2 j e0] at hj'
          exact key (hc j o' hj' ho' e he' hb)
      · have := cnt_set (D := fun i => L.getD i false) (D' := fun m => (L.setIfInBounds i true).getD m false) hD hD1 hD2 ops.size hN
        omega
    have hmem : o ∈ ops.toList := List.mem_of_getElem? (i := i) (by simpa using ho)
    unfold wpOp
    rw [ho]
    dsimp only
    rcases hst.run with ⟨c1, c2, c3⟩ | ⟨c1, c2⟩
    · obtain ⟨hu, hg⟩ := c3 _ hrd
      have hw : Region.wanted o (yielded ops a.tmps) = true := by
        rcases hg with hg | ⟨j, want, d, hg, hj, hv⟩
        · simp [Region.wanted, hg]
        · simp [Region.wanted, hg, (yielded_of R hj hv).1 want rfl]
      rw [if_pos hw]
      refine .inl (vop_ok hK hn hC R (hd o hmem) (fun t ht => noPts_get (H.freshPts hc ho hD ht (by rw [c1]; exact List.mem_append_left _ (allocN_mem ht)))) hu (fun τ iv c hm hτ => ?_) _ Q next)
      have hnew := news_mem (s := Sx up 0 s i) hm hτ
      exact noRef_get (H.freshRef hc hN hD (freshAll_mem c2 hnew) (by rw [c1]; exact List.mem_append_right _ hnew))
    · obtain ⟨j, want, d, hg, hj, hv⟩ := c2 _ hrd
      have hw : Region.wanted o (yielded ops a.tmps) = false := by
        rcases hv with hv | hv
        · simp [Region.wanted, hg, (yielded_of R hj hv).1 _ rfl]
        · simp [Region.wanted, hg, (yielded_of R hj hv).2 rfl]
      rw [hw]
      refine next G _ w ?_ (Fr.refl _ _)
      rw [c1]
      exact R.skip (hd o hmem)

theorem region_drawn (hm : P.follows .mixedOrders = true) (hK : TyOK P X.K E) (hXn : X.n = n) (hS : CSound X.C CR) (hC : CallsOK P X.K E n CR) (id : Nat) (ops : Array Oper) :
    CodeSound P E n (.region id ops true) fun s k => regionK X id ops true s (k .nrm) := by
  intro G s a w k r Q h R hk
  unfold regionK at h
  dsimp only at h
  cases hb : (allocsOk X.n s ops.toList && incNm 0 (X.keep id)) with
  | false => rw [hb] at h; cases h
  | true =>
    rw [hb] at h
    simp only [Bool.and_eq_true] at hb
    obtain ⟨h1, h2⟩ := hb
    rw [hXn] at h1
    obtain ⟨d1, d2, d3⟩ := allocsOk_spec h1
    simp only [cond_true] at h
    obtain ⟨tf, up, t1, t2⟩ := opsT_spec hS ops _ r ops.toList 0 s [] h
    cases hb : (trOk ops (trs tf 0 ops.toList.length []) && backOk 0 ops.toList) with
    | false => rw [hb] at t2; cases t2
    | true =>
      rw [hb] at t2
      simp only [Bool.and_eq_true] at hb
      simp only [cond_true] at t2
      obtain ⟨_, p1, _⟩ := trs_ok ops.toList.length 0 [] hb.1
      have hlen : ops.toList.length = ops.size := by simp
      rw [hlen] at p1 t2
      have H : Run CR X.K ops s tf up := by
        refine ⟨fun m o hm => ?_, fun m m' hm hN => ?_, fun m o hm e he hb' => ?_, d2⟩
        · have := (t1 m o (by simpa using hm)).1
          simpa using this
        · have := p1 m m' (by omega) hm (by omega)
          have e1 : (tf m).i = m := by have := (t1 m ops[m] (by simp)).2; simpa using this
          have e2 : (tf m').i = m' := by have := (t1 m' (ops[m']'(by omega)) (by simp)).2; simpa using this
          rw [e1, e2, Bool.or_eq_true] at this
          exact this
        · have := backOk_at ops.toList 0 hb.2 m o (by simpa using hm) e he hb'
          omega
      refine wp_region_any hm ?_
      have e0 : ∀ i, (Array.replicate ops.size false).getD i false = false := fun i => by
        simp [Array.getD_eq_getD_getElem?, Array.getElem?_replicate]
        split <;> rfl
      have hf : (fun i => (Array.replicate ops.size false).getD i false) = fun _ => false := funext e0
      have hsd : ∀ k, sd up (fun _ => false) s k = s := by
        intro k
        induction k with
        | zero => rfl
        | succ k ih => simp only [sd, cond_false]; exact ih
      have hcn : ∀ k, cnt (fun _ => false) k = k := by
        intro k
        induction k with
        | zero => rfl
        | succ k ih => simp only [cnt, cond_false, ih]
      refine draw_ok hK d3 hC H d1 Q G w (fun G' a' w' R' f' => ?_) ops.size _ G a w.drew (by simp) (fun i o hi => absurd hi (by rw [hf]; simp)) (by rw [hf]; exact hcn _) (by rw [hf, hsd]; exact R.drew) ⟨rfl, rfl, rfl, Nat.le_refl _, fun _ h => ⟨h, rfl⟩, fun _ _ h => ⟨h, rfl⟩⟩
      obtain ⟨G2, R2, f2⟩ := clean_ok R' h2
      exact hk G2 _ a' w' .nrm R2 (f'.trans f2) t2

theorem regions_ok (hm : P.follows .mixedOrders = true) (hK : TyOK P X.K E) (hXn : X.n = n) (hS : CSound X.C CR) (hC : CallsOK P X.K E n CR) : RegionsOK P E n X := by
  intro id ops draw
  cases draw with
  | false => exact region_text hK hXn hS hC id ops
  | true => exact region_drawn hm hK hXn hS hC id ops
end
end Go.Tm
