/- The T-machine: what is made: slices, arrays, boxes. -/
import Derived.Test.YtmcldnoofgkidaaTm13
set_option linter.unusedVariables false
set_option linter.unusedSimpArgs false
namespace Go.Tm
open Go.RowKit

/-- Where a token stands among the parts of a literal. -/
def litIdx : List VV → Nat → Nat
  | [], _ => 0
  | .rf σ :: vs, q => if σ = q then 0 else litIdx vs q + 1
  | _ :: vs, q => litIdx vs q + 1

theorem litIdx_ne {v : VV} {vs : List VV} {q : Nat} (h : v ≠ .rf q) : litIdx (v :: vs) q = litIdx vs q + 1 := by
  cases v with
  | rf σ => simp only [litIdx]; rw [if_neg (fun e => h (by rw [e]))]
  | _ => rfl

section
variable {P : Program} {K : Kf} {E : El} {n : Nat} {G : Gh} {s : St} {a : Act} {w : World} {CR : CRel} {o : Oper} {u : St}

def LitAt (s : St) (vs : List VV) (g : List Nat) (oo : Bool) (j : Nat) (v : VV) (ys : List Int) : Prop :=
  (∃ q iv, v = .rf q ∧ q ∈ g ∧ litIdx vs q = j ∧ s.get (.tok q) = .t iv (.ints .i64 ys)) ∨
  (oo = false ∧ ((∃ q, v = .rf q ∧ s.get (.tok q) = .f (.ints .i64 ys)) ∨ v = .sc (.ints .i64 ys))) ∨ (v = .sc .nil ∧ ys = [])

theorem runs_litRows {vs : List VV} {f : Bool → List (List Int) → List Nat → Rd} (h : Runs CR s (litRows vs f) u) :
    ∃ oo yss g, Runs CR s (f oo yss g) u ∧ yss.length = vs.length ∧ (∀ (j : Nat) (v : VV) (ys : List Int), vs[j]? = some v → yss[j]? = some ys → LitAt s vs g oo j v ys) ∧
      (∀ q ∈ g, VV.rf q ∈ vs ∧ ∃ iv ys, s.get (.tok q) = .t iv (.ints .i64 ys)) := by
  induction vs generalizing f with
  | nil => exact ⟨true, [], [], h, rfl, fun j v ys h => by simp at h, fun q h => by simp at h⟩
  | cons v vs ih =>
    have read : ∀ {ys : List Int} {oo : Bool} {yss : List (List Int)} {g : List Nat} {oo' : Bool}, (oo' = oo ∨ oo' = false) → (∀ q ∈ g, v ≠ .rf q) → LitAt s (v :: vs) g oo' 0 v ys →
        (∀ (j : Nat) (v : VV) (ys : List Int), vs[j]? = some v → yss[j]? = some ys → LitAt s vs g oo j v ys) → ∀ (j : Nat) (x : VV) (zs : List Int), (v :: vs)[j]? = some x → (ys :: yss)[j]? = some zs → LitAt s (v :: vs) g oo' j x zs := by
      intro ys oo yss g oo' hoo hg h0 hh j x zs hx hz
      cases j with
      | zero => simp at hx hz; subst hx; subst hz; exact h0
      | succ j =>
        rcases hh j x zs (by simpa using hx) (by simpa using hz) with ⟨q, iv, e1, e2, e3, e4⟩ | ⟨e1, e2⟩ | e
        · exact .inl ⟨q, iv, e1, e2, by rw [litIdx_ne (hg q e2), e3], e4⟩
        · exact .inr (.inl ⟨by rcases hoo with h | h <;> simp [h, e1], e2⟩)
        · exact .inr (.inr e)
    have nref : (∀ q, v ≠ .rf q) → ∀ g : List Nat, ∀ q ∈ g, v ≠ .rf q := fun h g q _ => h q
    cases v with
    | rf σ =>
      simp only [litRows, Runs] at h
      split at h
      · rename_i iv ys hc
        obtain ⟨oo, yss, g, h, k1, k2, k3⟩ := ih h
        obtain ⟨hn, h⟩ := h
        have hn' : ∀ q ∈ g, VV.rf σ ≠ .rf q := by
          rintro q hq e
          injection e with e
          subst e
          rw [← natHas_iff] at hq
          rw [hq] at hn
          cases hn
        refine ⟨oo, ys :: yss, σ :: g, h, by simp [k1], fun j x zs hx hz => ?_, fun q hq => ?_⟩
        · cases j with
          | zero => simp at hx hz; subst hx; subst hz; exact .inl ⟨σ, iv, rfl, by simp, by simp [litIdx], hc⟩
          | succ j =>
            rcases k2 j x zs (by simpa using hx) (by simpa using hz) with ⟨q, iv, e1, e2, e3, e4⟩ | e | e
            · exact .inl ⟨q, iv, e1, by simp [e2], by rw [litIdx_ne (hn' q e2), e3], e4⟩
            · exact .inr (.inl e)
            · exact .inr (.inr e)
        · rcases List.mem_cons.1 hq with rfl | hq
          · exact ⟨by simp, iv, ys, hc⟩
          · exact ⟨by simp [(k3 q hq).1], (k3 q hq).2⟩
      · rename_i ys hc
        obtain ⟨oo, yss, g, h, k1, k2, k3⟩ := ih h
        have hn' : ∀ q ∈ g, VV.rf σ ≠ .rf q := by
          rintro q hq e
          injection e with e
          subst e
          obtain ⟨_, iv, ys', h2⟩ := k3 σ hq
          rw [hc] at h2
          cases h2
        exact ⟨false, ys :: yss, g, h, by simp [k1], read (oo := oo) (.inr rfl) hn' (.inr (.inl ⟨rfl, .inl ⟨σ, rfl, hc⟩⟩)) k2, fun q hq => ⟨by simp [(k3 q hq).1], (k3 q hq).2⟩⟩
      · exact h.elim
    | sc x => cases x with
      | ints k ys =>
        cases k <;> first | exact h.elim | skip
        obtain ⟨oo, yss, g, h, k1, k2, k3⟩ := ih h
        exact ⟨false, ys :: yss, g, h, by simp [k1], read (oo := oo) (.inr rfl) (by simp) (.inr (.inl ⟨rfl, .inr rfl⟩)) k2, fun q hq => ⟨by simp [(k3 q hq).1], (k3 q hq).2⟩⟩
      | nil =>
        obtain ⟨oo, yss, g, h, k1, k2, k3⟩ := ih h
        exact ⟨oo, [] :: yss, g, h, by simp [k1], read (oo := oo) (.inl rfl) (by simp) (.inr (.inr ⟨rfl, rfl⟩)) k2, fun q hq => ⟨by simp [(k3 q hq).1], (k3 q hq).2⟩⟩
      | _ => exact h.elim
    | _ => exact h.elim

theorem deadL_get : ∀ (g : List Nat) (s : St), (∀ t', St.get (deadL g ++ s) (.slot t') = s.get (.slot t')) ∧ (∀ b, St.get (deadL g ++ s) (.box b) = s.get (.box b)) ∧
    (∀ σ, σ ∉ g → St.get (deadL g ++ s) (.tok σ) = s.get (.tok σ)) ∧ (∀ σ ∈ g, St.get (deadL g ++ s) (.tok σ) = .v .un)
  | [], s => ⟨fun _ => rfl, fun _ => rfl, fun _ _ => rfl, fun _ h => by simp at h⟩
  | q :: g, s => by
    obtain ⟨h1, h2, h3, h4⟩ := deadL_get g s
    refine ⟨fun t' => ?_, fun b => ?_, fun σ h => ?_, fun σ h => ?_⟩
    · simp only [deadL, List.cons_append]; rw [get_cons, if_neg (by simp), h1]
    · simp only [deadL, List.cons_append]; rw [get_cons, if_neg (by simp), h2]
    · simp only [deadL, List.cons_append]; rw [get_cons, if_neg (by rintro e; injection e with e; exact h (by simp [e])), h3 σ (fun hh => h (by simp [hh]))]
    · simp only [deadL, List.cons_append]
      rw [get_cons]
      by_cases e : q = σ
      · subst e; rw [if_pos rfl]
      · rw [if_neg (by simpa using e)]; exact h4 σ (by rcases List.mem_cons.1 h with h | h; exact absurd h.symm e; exact h)

/-- How the labels turn at a literal of rows. -/
def rhoL (vs : List VV) (g : List Nat) (oo : Bool) (t : Nat) : Lab → Lab
  | .ow q none => if q ∈ g then (if oo then .ow t (some (litIdx vs q)) else .im) else .ow q none
  | l => l

theorem lit_step (R : Rel E n G s a w) {t : Nat} {vs : List VV} {vals : List Value} {yss : List (List Int)} {g : List Nat} {oo : Bool} (hdst : o.dst = some t) (ht : t < n) (hno : NoRef t s) (hm : vals.length ≤ maxLen)
    (hrun : (execOp a.eval o).run P w = .ok (.value (.slice (some ⟨w.heap.size, 0, none⟩) vals.length vals.length)) (w.alloc (.cells vals.toArray E.eR)))
    (hl1 : vals.length = vs.length) (hl : yss.length = vs.length) (hv : ∀ (j : Nat) (val : Value) (v : VV), vals[j]? = some val → vs[j]? = some v → VR G s w val v)
    (hat : ∀ (j : Nat) (v : VV) (ys : List Int), vs[j]? = some v → yss[j]? = some ys → LitAt s vs g oo j v ys) (hg : ∀ q ∈ g, VV.rf q ∈ vs ∧ ∃ iv ys, s.get (.tok q) = .t iv (.ints .i64 ys)) :
    OpOK E n P G s a w o ([(.slot t, .v (.rf t)), (.tok t, .t 0 (.rows oo yss))] ++ deadL g) := by
  refine OpOK.of_value hrun ?_
  rw [hdst]
  obtain ⟨d1, d2, d3, d4⟩ := deadL_get g s
  have happ := App.made w vals.toArray E.eR vals.length vals.length
  have hlt : ∀ k, G.O k ≠ .no → k < w.heap.size := by
    intro k hk
    rcases Nat.lt_or_ge k w.heap.size with h | h
    · exact h
    · exact absurd (R.fresh k h) hk
  have hnone : ∀ k, (Value.slice none 0 0).ownBlock ≠ some k := by intro k; simp [Value.ownBlock]
  have := R.append2 (s1 := deadL g ++ s) (c := .rows oo yss) (rhoL vs g oo t) rfl rfl (fun _ => rfl) ht hno happ (fun k hk => absurd hk (hnone k)) trivial d1 d2
    (fun hk => by
      have hk' : ∀ k l, G.O k = l → l ≠ .no → rhoO G.O (rhoL vs g oo t) t (.slice (some ⟨w.heap.size, 0, none⟩) vals.length vals.length) k = rhoL vs g oo t l ∧ (w.alloc (.cells vals.toArray E.eR)).heap[k]? = w.heap[k]? := by
        intro k l h1 h2
        obtain ⟨a1, a2⟩ := hk k (hlt k (by rw [h1]; exact h2)) (hnone k)
        exact ⟨by rw [a1, h1], a2⟩
      refine ⟨vals, ⟨ownsRow_lit w vals E.eR hm, fun k hk2 => by unfold rhoO; rw [if_pos hk2]⟩, by rw [hl1, hl], fun j h ys hh hy => ?_⟩
      have hj : j < vs.length := by rw [← hl1]; exact (List.getElem?_eq_some_iff.1 hh).1
      have hV := hv j h vs[j] hh (List.getElem?_eq_getElem hj)
      rcases hat j vs[j] ys (List.getElem?_eq_getElem hj) hy with ⟨q, iv, e1, e2, e3, e4⟩ | ⟨e1, e2⟩ | ⟨e1, e2⟩
      · rw [e1] at hV
        have hval : h = G.H q := hV.2 (by rw [e4]; rfl)
        have hS : SlO G.O w (.ow q none) (E.eI .i64) (G.H q) (vints .i64 ys) := R.toks q _ _ e4
        rw [hval]
        refine ⟨fun hoo => hS.keep fun k h1 h2 => ?_, fun hoo => hS.frozen (fun k h1 h2 => ?_) hS.len.1⟩
        · obtain ⟨a1, a2⟩ := hk' k _ h1 (by simp)
          exact ⟨by rw [a1]; simp only [rhoL]; rw [if_pos e2, hoo, e3]; rfl, a2⟩
        · obtain ⟨a1, a2⟩ := hk' k _ h1 (by simp)
          exact ⟨by rw [a1]; simp only [rhoL]; rw [if_pos e2, hoo]; rfl, a2⟩
      · refine ⟨fun hoo => (by rw [e1] at hoo; cases hoo), fun _ => ?_⟩
        have hI : SlI G.O w h (vints .i64 ys) := by
          rcases e2 with ⟨q, e2, e3⟩ | e2
          · rw [e2] at hV
            have hval : h = G.H q := hV.2 (by rw [e3]; rfl)
            rw [hval]
            exact R.froz q _ e3
          · rw [e2] at hV
            exact hV
        exact hI.keep fun k h1 => hk' k _ h1 (by simp)
      · rw [e1] at hV
        have hval : h = .slice none 0 0 := hV
        rw [hval, e2]
        exact ⟨fun _ => ⟨World.ownsRow_nil _ _ _ _, fun k hk => absurd hk (hnone k)⟩, fun _ => ⟨none, 0, rfl, Nat.le_refl _, Nat.zero_le _, fun h => absurd rfl h⟩⟩)
    (fun hk q hq => by
      by_cases e : q ∈ g
      · exact TokStep.dead (d4 q e)
      · refine TokStep.same (d3 q e) (by simp [updH, hq]) fun iv d hd k m hm => ?_
        exact (R.toks q iv d hd).outer (fun g hg => (hk g (hlt g (by rw [hg]; simp)) (hnone g)).2) k m hm)
    (fun hk q iv d hq hd => by
      by_cases e : q ∈ g
      · rw [d4 q e] at hd; cases hd
      · rw [d3 q e] at hd
        refine (R.toks q iv d hd).move (fun k hk2 => ?_) fun k p hk2 hl => ?_
        · obtain ⟨p1, p2⟩ := hk k (hlt k (by rw [hk2]; simp)) (hnone k)
          exact ⟨by rw [p1, hk2]; rfl, p2⟩
        · obtain ⟨p1, p2⟩ := hk k hl (hnone k)
          refine ⟨?_, p2⟩
          rw [p1, hk2]
          cases p with
          | none => simp only [rhoL]; rw [if_neg e]
          | some j => rfl)
    (fun q x hq hx' => by
      by_cases e : q ∈ g
      · rw [d4 q e] at hx'; cases hx'
      · rw [d3 q e] at hx'; exact hx')
  simpa using this

theorem buildSlice_ok (hK : TyOK P K E) (R : Rel E n G s a w) {T : TypeId} {len : Nat} {ps : Array (Nat × Operand)} (ho : o.op = .buildSlice T len ps) (hd : dstOk n o.dst = true) (hn : n ≤ 100000000)
    (hu : Runs CR s (vop K o) u) (hfr : Fresh s u) : OpOK E n P G s a w o u := by
  simp only [vop, ho] at hu
  cases hdst : o.dst with
  | none => rw [hdst] at hu; exact hu.elim
  | some t =>
    rw [hdst] at hu hd
    have ht : t < n := by simpa [dstOk, Nat.blt_eq] using hd
    have hno : ∀ c, (Loc.tok t, SV.t 0 c) ∈ u → NoRef t s := fun c h => hfr t 0 c h (Nat.lt_of_lt_of_le ht hn)
    dsimp only at hu
    unfold buildSliceOp at hu
    cases hb : (dense 0 ps.toList && Nat.beq ps.toList.length len && Nat.ble len 1000) with
    | false => rw [hb] at hu; exact hu.elim
    | true =>
      rw [hb] at hu
      simp only [Bool.and_eq_true, Nat.beq_eq, Nat.ble_eq] at hb
      obtain ⟨⟨b1, b2⟩, b3⟩ := hb
      obtain ⟨vs, hl, hv, hu⟩ := runs_opds hu
      have hV := vals_parts R (ps := ps.toList) (by simpa using hl) hv
      have hpl : vs.length = ps.toList.length := by simpa using hl
      have hm : (ps.toList.map fun p => a.eval p.2).length ≤ maxLen := by rw [List.length_map, b2]; unfold maxLen; omega
      have run : ∀ e inf z, P.underlying T = some (.slice e) → P.info? e = some inf → inf.zero = some z → inf.size = 1 → (∀ (j : Nat) (q : Nat × Operand), ps.toList[j]? = some q → (a.eval q.2).oneCell' = true) →
          (execOp a.eval o).run P w = .ok (.value (.slice (some ⟨w.heap.size, 0, none⟩) (ps.toList.map fun p => a.eval p.2).length (ps.toList.map fun p => a.eval p.2).length)) (w.alloc (.cells (ps.toList.map fun p => a.eval p.2).toArray e)) := by
        intro e inf z h1 h2 h3 h4 h5
        refine exec_buildSlice ho ?_
        have := run_buildSlice (P := P) (w := w) T e inf z h1 h2 h3 h4 len (ps.toList.map fun p => (p.1, a.eval p.2)) (by simpa using b2) b3 (fun j q hq => by
          rw [List.getElem?_map, Option.map_eq_some_iff] at hq
          obtain ⟨p, hp, rfl⟩ := hq
          exact ⟨by have := dense_at _ _ b1 j p hp; omega, h5 j p hp⟩)
        have e1 : (ps.map fun x => match x with | (i, x) => (i, a.eval x)) = (ps.toList.map fun p => (p.1, a.eval p.2)).toArray := by
          rw [← List.map_toArray]
        rw [e1, this]
        simp [b2, Function.comp_def]
      have hT := hK T
      cases hk : K T with
      | slI k e =>
        rw [hk] at hT hu
        obtain ⟨h1, h2, _, inf, h3, h4, h5, h6⟩ := hT
        subst h2
        dsimp only at hu
        split at hu
        · rename_i xs hxs
          have := asInts_ok hxs
          subst this
          have hu' : u = [(.slot t, .v (.rf t)), (.tok t, .t 0 (.ints k xs))] := hu
          have hcells : (ps.toList.map fun p => a.eval p.2) = vints k xs := by
            apply List.ext_getElem?
            intro j
            by_cases hj : j < ps.toList.length
            · have hj2 : j < xs.length := by (have h0 := hpl; simp only [List.length_map] at h0; omega)
              have h0 : a.eval ps.toList[j].2 = .int k xs[j] := hV j _ (.sc (.int k xs[j])) (List.getElem?_eq_getElem hj) (by rw [List.getElem?_map, List.getElem?_eq_getElem hj2]; rfl)
              rw [List.getElem?_map, List.getElem?_eq_getElem hj, vints, List.getElem?_map, List.getElem?_eq_getElem hj2]
              simp only [Option.map_some, h0]
            · have hj2 : ¬ j < xs.length := by intro h; apply hj; have := hpl; simp at this; simp; omega
              rw [List.getElem?_eq_none (by simp at hj ⊢; omega), List.getElem?_eq_none (by simp [vints]; omega)]
          have hr := run _ inf _ h1 h3 h5 h4 (fun j q hq => by
            have hj : j < xs.length := by have h1 := (List.getElem?_eq_some_iff.1 hq).1; have h0 := hpl; simp only [List.length_map] at h0; omega
            have h0 : a.eval q.2 = .int k xs[j] := hV j q (.sc (.int k xs[j])) hq (by rw [List.getElem?_map, List.getElem?_eq_getElem hj]; rfl)
            rw [h0]; rfl)
          rw [hcells] at hr hm
          have hno' := hno (.ints k xs) (by rw [hu']; simp)
          rw [hu']
          exact made_step R hdst ht hno' hm hr fun O' w' v' h => h
        · exact hu.elim
      | slS e =>
        rw [hk] at hT hu
        obtain ⟨h1, h2, _, inf, h3, h4, h5, h6⟩ := hT
        subst h2
        dsimp only at hu
        split at hu
        · rename_i xs hxs
          have := asStrs_ok hxs
          subst this
          have hu' : u = [(.slot t, .v (.rf t)), (.tok t, .t 0 (.strs xs))] := hu
          have hcells : (ps.toList.map fun p => a.eval p.2) = vstrs xs := by
            apply List.ext_getElem?
            intro j
            by_cases hj : j < ps.toList.length
            · have hj2 : j < xs.length := by (have h0 := hpl; simp only [List.length_map] at h0; omega)
              have h0 : a.eval ps.toList[j].2 = .string xs[j] := hV j _ (.sc (.str xs[j])) (List.getElem?_eq_getElem hj) (by rw [List.getElem?_map, List.getElem?_eq_getElem hj2]; rfl)
              rw [List.getElem?_map, List.getElem?_eq_getElem hj, vstrs, List.getElem?_map, List.getElem?_eq_getElem hj2]
              simp only [Option.map_some, h0]
            · have hj2 : ¬ j < xs.length := by intro h; apply hj; have := hpl; simp at this; simp; omega
              rw [List.getElem?_eq_none (by simp at hj ⊢; omega), List.getElem?_eq_none (by simp [vstrs]; omega)]
          have hr := run _ inf _ h1 h3 h5 h4 (fun j q hq => by
            have hj : j < xs.length := by have h1 := (List.getElem?_eq_some_iff.1 hq).1; have h0 := hpl; simp only [List.length_map] at h0; omega
            have h0 : a.eval q.2 = .string xs[j] := hV j q (.sc (.str xs[j])) hq (by rw [List.getElem?_map, List.getElem?_eq_getElem hj]; rfl)
            rw [h0]; rfl)
          rw [hcells] at hr hm
          have hno' := hno (.strs xs) (by rw [hu']; simp)
          rw [hu']
          exact made_step R hdst ht hno' hm hr fun O' w' v' h => h
        · exact hu.elim
      | slR e =>
        rw [hk] at hT hu
        obtain ⟨h1, h2, _, inf, h3, h4, h5, h6⟩ := hT
        subst h2
        dsimp only at hu
        obtain ⟨oo, yss, g, hu, k1, k2, k3⟩ := runs_litRows hu
        have hu' : u = [(.slot t, .v (.rf t)), (.tok t, .t 0 (.rows oo yss))] ++ deadL g := hu
        have hvv : ∀ (j : Nat) (val : Value) (v : VV), (ps.toList.map fun p => a.eval p.2)[j]? = some val → vs[j]? = some v → VR G s w val v := by
          intro j val v hval hv'
          rw [List.getElem?_map, Option.map_eq_some_iff] at hval
          obtain ⟨q, hq, rfl⟩ := hval
          exact hV j q v hq hv'
        have hr := run _ inf _ h1 h3 h5 h4 (fun j q hq => by
          have hj : j < vs.length := by rw [hpl]; exact (List.getElem?_eq_some_iff.1 hq).1
          have hVj := hV j q vs[j] hq (List.getElem?_eq_getElem hj)
          rcases k2 j vs[j] (yss[j]'(by rw [k1]; exact hj)) (List.getElem?_eq_getElem hj) (List.getElem?_eq_getElem _) with ⟨q', iv, e1, _⟩ | ⟨_, ⟨q', e1, _⟩ | e1⟩ | ⟨e1, _⟩
          · rw [e1] at hVj; exact hVj.1.one
          · rw [e1] at hVj; exact hVj.1.one
          · rw [e1] at hVj; exact SlI.sgl (O := G.O) (w := w) hVj |>.one
          · rw [e1] at hVj
            have : a.eval q.2 = .slice none 0 0 := hVj
            rw [this]; rfl)
        have hno' := hno (.rows oo yss) (by rw [hu']; simp)
        rw [hu']
        exact lit_step R hdst ht hno' hm hr (by rw [hpl]; simp) k1 hvv k2 k3
      | _ => rw [hk] at hu; exact hu.elim
end
end Go.Tm
