/- The T-machine: stores. -/
import Derived.Test.YtmcldnoofgkidaaTm7
set_option linter.unusedVariables false
set_option linter.unusedSimpArgs false
namespace Go.Tm
open Go.RowKit

section
variable {P : Program} {w : World} {ρ : Operand → Value} {o : Oper}

def oneL (v : Value) : Prop := ∀ u ∈ v.cells.toList, u.oneCell' = true

theorem Sgl.oneL {v : Value} (h : Sgl v) : oneL v := by
  intro u hu
  rw [h.cells] at hu
  have : u = v := by simpa using hu
  subst this
  cases u <;> first | exact h.elim | rfl

theorem exec_store {T : TypeId} {x y : Operand} {g off : Nat} {v : Value} {inf : TypeInfo} {cur : Array Value} {e : TypeId} (ho : o.op = .store T x y) (hx : ρ x = .pointer (some ⟨g, off, none⟩)) (hy : ρ y = v) (hinf : P.info? T = some inf) (hs : inf.size = v.cells.size)
    (hg : w.heap[g]? = some (.cells cur e (0, 0))) (hfit : off + v.cells.size ≤ cur.size) (h1 : oneL v) :
    (execOp ρ o).run P w = .ok .skip (w.setRow g (cur.toList.take off ++ v.cells.toList ++ cur.toList.drop (off + v.cells.size)).toArray) := by
  have hst := run_storeCells_at P g off e v.cells.toList 0 cur w hg (by simpa using hfit) h1
  simp only [Nat.add_zero] at hst
  have hl : v.cells.toList.length = v.cells.size := by simp
  rw [hl] at hst
  simp only [execOp, ho, hx, hy, Instr.storeAt, Instr.sureAddr, storeVar]
  generalize v.cells = cs at *
  simp [sizeOf, typeInfo, hinf, hs, hst, go_sem]
end

section
variable {P : Program} {K : Kf} {E : El} {n : Nat} {G : Gh} {s : St} {a : Act} {w : World} {CR : CRel} {o : Oper} {u : St}

theorem VC.outer {O : Lbl} {w w' : World} {σ : Nat} {v : Value} {c : Ct} (h : VC E O w σ v c) (hk : ∀ g, O g = .ow σ none → w'.heap[g]? = w.heap[g]?) : ∀ k m, rowLen c k = some m → cellOf w' v k = cellOf w v k := by
  intro k m hm
  cases c with
  | rows own xss =>
    cases own with
    | true =>
      simp only [rowLen, Option.map_eq_some_iff] at hm
      obtain ⟨xs, hx, _⟩ := hm
      obtain ⟨hs, h1, h2, h3⟩ := h
      have hlt : k < hs.length := by rw [h2]; exact (List.getElem?_eq_some_iff.1 hx).1
      obtain ⟨g, cap, rfl, hg, _⟩ := h1.cell (List.getElem?_eq_getElem hlt)
      simp only [cellOf, add0]
      exact tmCell (hk g hg)
    | false => simp [rowLen] at hm
  | _ => simp [rowLen] at hm

theorem Fr.setRow {O : Lbl} {g : Nat} (h1 : O g ≠ .im) (h2 : O g ≠ .no) (w : World) (cs : Array Value) : Fr O w O (w.setRow g cs) :=
  ⟨rfl, rfl, rfl, by simp, fun k hk => ⟨hk, setRow_other w g k cs (by rintro rfl; exact h1 hk)⟩, fun k _ hk => ⟨hk, setRow_other w g k cs (by rintro rfl; exact h2 hk)⟩⟩

theorem Rel.wrTok (R : Rel E n G s a w) {g τ : Nat} {p : Option Nat} {cs' : Array Value} {iv iv' : Nat} {c c' : Ct} (hg : G.O g = .ow τ p) (hc : s.get (.tok τ) = .t iv c) (hlen : c'.len = c.len) (hiv : iv ≤ iv')
    (hin : iv = iv' → ∀ k m, rowLen c k = some m → rowLen c' k = some m ∧ cellOf (w.setRow g cs') (G.H τ) k = cellOf w (G.H τ) k)
    (hVC : VC E G.O (w.setRow g cs') τ (G.H τ) c') : Rel E n G ((.tok τ, .t iv' c') :: s) a (w.setRow g cs') ∧ Fr G.O w G.O (w.setRow g cs') := by
  have hoth : ∀ k, k ≠ g → (w.setRow g cs').heap[k]? = w.heap[k]? := fun k hk => setRow_other w g k cs' hk
  have hts : ∀ σ, TokStep G s w G ((.tok τ, .t iv' c') :: s) (w.setRow g cs') σ := by
    intro σ
    by_cases e : τ = σ
    · subst e
      refine ⟨fun _ => ⟨by rw [hc]; rfl, rfl⟩, fun iv2 c2 h => ?_⟩
      rw [get_cons, if_pos rfl] at h
      injection h with h1 h2
      subst h1; subst h2
      exact ⟨iv, c, hc, hiv, hlen, hin⟩
    · refine TokStep.same (by rw [get_cons, if_neg (by simpa using e)]) rfl fun i d hd k m hm => ?_
      exact (R.toks σ i d hd).outer (fun g' hg' => hoth g' (by rintro rfl; rw [hg] at hg'; injection hg' with h1 _; exact e h1)) k m hm
  have hfr := Fr.setRow (O := G.O) (g := g) (by rw [hg]; simp) (by rw [hg]; simp) w cs'
  refine ⟨R.step R.size R.defers hfr.im (fun t v hv => ?_) (fun b v hv => ?_) (fun σ i d h => ?_) (fun σ x h => ?_) (fun k hk => R.fresh k (by simpa using hk)), hfr⟩
  · rw [get_cons] at hv
    simp only [reduceCtorEq, if_false] at hv
    exact .inl ⟨hv, rfl, fun σ _ => hts σ, fun _ _ => rfl⟩
  · rw [get_cons] at hv
    simp only [reduceCtorEq, if_false] at hv
    exact .inr (.inl ⟨hv, rfl, fun h => ⟨h, hoth _ (by rintro e; rw [e, hg] at h; cases h)⟩, fun σ _ => hts σ, fun _ _ => rfl⟩)
  · rw [get_cons] at h
    by_cases e : τ = σ
    · subst e
      rw [if_pos rfl] at h
      injection h with h1 h2
      subst h1; subst h2
      exact .inr hVC
    · rw [if_neg (by simpa using e)] at h
      exact .inl ⟨⟨i, h⟩, rfl, fun g' q hg' _ => ⟨hg', hoth g' (by rintro rfl; rw [hg] at hg'; injection hg' with h1 _; exact e h1)⟩⟩
  · rw [get_cons] at h
    by_cases e : τ = σ
    · subst e; rw [if_pos rfl] at h; cases h
    · rw [if_neg (by simpa using e)] at h
      exact .inl ⟨h, rfl⟩

theorem Rel.wrBox (R : Rel E n G s a w) {b : Key} {v0 : VV} {v : VV} {val : Value} {e : TypeId} (hc : s.get (.box b) = .v v0) (hne : v0 ≠ .un) (hv : VR G s w val v) {cs' : Array Value} (hcs : cs' = val.cells) :
    Rel E n G ((.box b, .v v) :: s) a (w.setRow (G.B b) cs') ∧ Fr G.O w G.O (w.setRow (G.B b) cs') := by
  subst hcs
  rcases R.boxes b v0 hc with h | ⟨r1, u0, e0, r2, r3⟩
  · exact absurd h hne
  have hoth : ∀ k, k ≠ G.B b → (w.setRow (G.B b) val.cells).heap[k]? = w.heap[k]? := fun k hk => setRow_other w _ k _ hk
  have hts : ∀ σ, TokStep G s w G ((.box b, .v v) :: s) (w.setRow (G.B b) val.cells) σ := by
    intro σ
    refine TokStep.same (by rw [get_cons]; rfl) rfl fun i d hd k m hm => ?_
    exact (R.toks σ i d hd).outer (fun g' hg' => hoth g' (by rintro rfl; rw [r1] at hg'; cases hg')) k m hm
  have hfr := Fr.setRow (O := G.O) (g := G.B b) (by rw [r1]; simp) (by rw [r1]; simp) w val.cells
  refine ⟨R.step R.size R.defers hfr.im (fun t y hy => ?_) (fun b' y hy => ?_) (fun σ i d h => ?_) (fun σ x h => ?_) (fun k hk => R.fresh k (by simpa using hk)), hfr⟩
  · rw [get_cons] at hy
    simp only [reduceCtorEq, if_false] at hy
    exact .inl ⟨hy, rfl, fun σ _ => hts σ, fun _ _ => rfl⟩
  · rw [get_cons] at hy
    by_cases eb : b = b'
    · subst eb
      rw [if_pos rfl] at hy
      injection hy with hy
      subst hy
      exact .inr (.inr ⟨r1, val, e0, setRow_heap w _ _ _ _ _ r2, hv.keep (fun σ _ => hts σ) (fun _ _ => rfl) hfr.im⟩)
    · rw [if_neg (by simpa using eb)] at hy
      exact .inr (.inl ⟨hy, rfl, fun h => ⟨h, hoth _ (by intro e; rw [e, r1] at h; injection h with h; exact eb h)⟩, fun σ _ => hts σ, fun _ _ => rfl⟩)
  · rw [get_cons] at h
    simp only [reduceCtorEq, if_false] at h
    exact .inl ⟨⟨i, h⟩, rfl, fun g' q hg' _ => ⟨hg', hoth g' (by rintro rfl; rw [r1] at hg'; cases hg')⟩⟩
  · rw [get_cons] at h
    simp only [reduceCtorEq, if_false] at h
    exact .inl ⟨h, rfl⟩

/-- A store's end. -/
theorem store_end {E : El} {n : Nat} {P : Program} {G : Gh} {s : St} {a : Act} {w : World} {o : Oper} {u u' : St} {w' : World} {G' : Gh} (hd : dstOk n o.dst = true)
    (hrun : (execOp a.eval o).run P w = .ok .skip w') (h : Rel E n G' (u' ++ s) a w' ∧ Fr G.O w G'.O w') (hu : u = match o.dst with | some t => (.slot t, .v .ud) :: u' | none => u') : OpOK E n P G s a w o u := by
  refine OpOK.of_skip hrun ⟨G', ?_, h.2⟩
  cases hdst : o.dst with
  | none => rw [hdst] at hu; dsimp only at hu; subst hu; exact h.1
  | some t =>
    rw [hdst] at hu hd; dsimp only at hu; subst hu
    exact h.1.slot (by simpa [dstOk, Nat.blt_eq] using hd) rfl

theorem take_set_drop {α : Type} (l : List α) (i : Nat) (x : α) (h : i < l.length) : l.take i ++ [x] ++ l.drop (i + 1) = l.set i x := by
  rw [List.set_eq_take_append_cons_drop, if_pos h]
  simp

theorem SlO.set {O : Lbl} {w : World} {lab : Lab} {e : TypeId} {v : Value} {cs : List Value} (h : SlO O w lab e v cs) {i : Nat} (hi : i < cs.length) {g : Nat} {cap : Nat} (hv : v = .slice (some ⟨g, 0, none⟩) cs.length cap) (x : Value) {cur : Array Value} (hg : w.heap[g]? = some (.cells cur e (0, 0))) :
    SlO O (w.setRow g (cur.toList.set i x).toArray) lab e v (cs.set i x) := by
  obtain ⟨⟨h1, h2⟩, h3⟩ := h
  rcases h2 with ⟨rfl, hn⟩ | ⟨g', cap', cur', e1, hb, hg', r1, r2, r3, r4⟩
  · cases hv
  · rw [hv] at e1
    injection e1 with q1 q2 q3
    injection q1 with q1
    injection q1 with q1
    subst q1; subst q3
    rw [hg] at hg'
    injection hg' with hg'
    injection hg' with e2 _
    subst e2
    refine ⟨⟨by simp, .inr ⟨g, cap, _, by rw [hv]; simp, hb, setRow_heap w g _ _ _ _ hg, by simpa using r1, r2, by simpa using r3, ?_⟩⟩, h3⟩
    rw [List.length_set]
    show List.take _ (cur.toList.set i x) = _
    rw [List.take_set, r4]

/-- A row of the call's own becomes an element of another token's rows. -/
theorem Rel.putInner (R : Rel E n G s a w) {τ σ iv iv' iv2 i g0 cap : Nat} {c : Ct} {xss : List (List Int)} {ys : List Int} {cur : Array Value}
    (hc : s.get (.tok τ) = .t iv c) (hcc : (c = .rows true xss ∧ iv' = iv + 1) ∨ (c = .hole i xss ∧ iv' = iv)) (hσ : s.get (.tok σ) = .t iv2 (.ints .i64 ys)) (hi : i < xss.length)
    (hH : G.H τ = .slice (some ⟨g0, 0, none⟩) xss.length cap) (hO : G.O g0 = .ow τ none) (hg : w.heap[g0]? = some (.cells cur E.eR (0, 0))) :
    ∃ G', Rel E n G' ((.tok τ, .t iv' (.rows true (xss.set i ys))) :: (.tok σ, .v .un) :: s) a (w.setRow g0 (cur.toList.set i (G.H σ)).toArray) ∧ Fr G.O w G'.O (w.setRow g0 (cur.toList.set i (G.H σ)).toArray) := by
  have hne : τ ≠ σ := by
    rintro rfl
    rw [hc] at hσ
    injection hσ with _ h
    rcases hcc with ⟨rfl, _⟩ | ⟨rfl, _⟩ <;> cases h
  have hiv : iv ≤ iv' := by rcases hcc with ⟨_, rfl⟩ | ⟨_, rfl⟩ <;> omega
  have hlen : c.len = xss.length := by rcases hcc with ⟨rfl, _⟩ | ⟨rfl, _⟩ <;> rfl
  let O' : Lbl := fun g => if G.O g = .ow σ none then .ow τ (some i) else G.O g
  have hkeepL : ∀ g l, G.O g = l → l ≠ .ow σ none → O' g = l := by
    intro g l h1 h2
    show (if G.O g = .ow σ none then _ else _) = _
    rw [if_neg (by rw [h1]; exact h2), h1]
  have hnew : ∀ g, G.O g = .ow σ none → O' g = .ow τ (some i) := by
    intro g h1
    show (if G.O g = .ow σ none then _ else _) = _
    rw [if_pos h1]
  have hoth : ∀ k, k ≠ g0 → (w.setRow g0 (cur.toList.set i (G.H σ)).toArray).heap[k]? = w.heap[k]? := fun k hk => setRow_other w g0 k _ hk
  have him : ∀ g, G.O g = .im → O' g = .im ∧ (w.setRow g0 (cur.toList.set i (G.H σ)).toArray).heap[g]? = w.heap[g]? :=
    fun g h => ⟨hkeepL g _ h (by simp), hoth g (by rintro rfl; rw [hO] at h; cases h)⟩
  have hts : ∀ ρ, TokStep G s w { G with O := O' } ((.tok τ, .t iv' (.rows true (xss.set i ys))) :: (.tok σ, .v .un) :: s) (w.setRow g0 (cur.toList.set i (G.H σ)).toArray) ρ := by
    intro ρ
    by_cases e : τ = ρ
    · subst e
      refine ⟨fun _ => ⟨by rw [hc]; rfl, rfl⟩, fun iv3 c3 h => ?_⟩
      rw [get_cons, if_pos rfl] at h
      injection h with h1 h2
      subst h1; subst h2
      refine ⟨iv, c, hc, hiv, by simp [Ct.len, hlen]; exact hlen.symm, fun e k m hm => ?_⟩
      rcases hcc with ⟨rfl, e2⟩ | ⟨rfl, e2⟩
      · omega
      · simp [rowLen] at hm
    · by_cases e2 : σ = ρ
      · subst e2
        exact TokStep.dead (v := .un) (by rw [get_cons, if_neg (by simpa using e), get_cons, if_pos rfl])
      · refine TokStep.same (by rw [get_cons, if_neg (by simpa using e), get_cons, if_neg (by simpa using e2)]) rfl fun j d hd k m hm => ?_
        exact (R.toks ρ j d hd).outer (fun g' hg' => hoth g' (by rintro rfl; rw [hO] at hg'; injection hg' with h1 _; exact e h1)) k m hm
  refine ⟨{ G with O := O' }, R.step R.size R.defers him (fun t v hv => ?_) (fun b v hv => ?_) (fun ρ j d h => ?_) (fun ρ x h => ?_) (fun k hk => hkeepL k _ (R.fresh k (by simpa using hk)) (by simp)),
    ⟨rfl, rfl, rfl, by simp, him, fun g _ h => ⟨hkeepL g _ h (by simp), hoth g (by rintro rfl; rw [hO] at h; cases h)⟩⟩⟩
  · rw [get_cons, get_cons] at hv
    simp only [reduceCtorEq, if_false] at hv
    exact .inl ⟨hv, rfl, fun ρ _ => hts ρ, fun _ _ => rfl⟩
  · rw [get_cons, get_cons] at hv
    simp only [reduceCtorEq, if_false] at hv
    exact .inr (.inl ⟨hv, rfl, fun h => ⟨hkeepL _ _ h (by simp), hoth _ (by rintro e; rw [e, hO] at h; cases h)⟩, fun ρ _ => hts ρ, fun _ _ => rfl⟩)
  · rw [get_cons] at h
    by_cases e : τ = ρ
    · subst e
      rw [if_pos rfl] at h
      injection h with h1 h2
      subst h1; subst h2
      refine .inr ?_
      have hV := R.toks τ iv c hc
      have hS : SlO G.O w (.ow σ none) (E.eI .i64) (G.H σ) (vints .i64 ys) := R.toks σ _ _ hσ
      have hS' : SlO O' (w.setRow g0 (cur.toList.set i (G.H σ)).toArray) (.ow τ (some i)) (E.eI .i64) (G.H σ) (vints .i64 ys) :=
        hS.keep fun g hg' _ => ⟨hnew g hg', hoth g (by rintro rfl; rw [hO] at hg'; injection hg' with h1 _; exact hne h1)⟩
      have outer : ∀ hs : List Value, SlO G.O w (.ow τ none) E.eR (G.H τ) hs → hs.length = xss.length → SlO O' (w.setRow g0 (cur.toList.set i (G.H σ)).toArray) (.ow τ none) E.eR (G.H τ) (hs.set i (G.H σ)) := by
        intro hs h1 h2
        have := SlO.set h1 (i := i) (by omega) (cap := cap) (by rw [hH, h2]) (G.H σ) hg
        obtain ⟨k1, k2⟩ := this
        exact ⟨k1, fun g hg' => hkeepL g _ (k2 g hg') (by simp; exact fun h => hne h)⟩
      have innr : ∀ (j : Nat) h xs, SlO G.O w (.ow τ (some j)) (E.eI .i64) h (vints .i64 xs) → SlO O' (w.setRow g0 (cur.toList.set i (G.H σ)).toArray) (.ow τ (some j)) (E.eI .i64) h (vints .i64 xs) := by
        intro j h xs hh
        exact hh.keep fun g hg' _ => ⟨hkeepL g _ hg' (by simp), hoth g (by rintro rfl; rw [hO] at hg'; cases hg')⟩
      rcases hcc with ⟨rfl, _⟩ | ⟨rfl, _⟩
      · obtain ⟨hs, h1, h2, h3⟩ := hV
        refine ⟨hs.set i (G.H σ), outer hs h1 h2, by simp [h2], fun j h xs hh hx => ⟨fun _ => ?_, fun e => (by cases e)⟩⟩
        rw [List.getElem?_set] at hh hx
        by_cases e : i = j
        · subst e
          rw [if_pos rfl, if_pos (by omega)] at hh
          rw [if_pos rfl, if_pos hi] at hx
          injection hh with hh; injection hx with hx
          subst hh; subst hx
          exact hS'
        · rw [if_neg e] at hh hx
          exact innr j h xs ((h3 j h xs hh hx).1 rfl)
      · obtain ⟨hs, h1, h2, h3⟩ := hV
        refine ⟨hs.set i (G.H σ), outer hs h1 h2, by simp [h2], fun j h xs hh hx => ⟨fun _ => ?_, fun e => (by cases e)⟩⟩
        rw [List.getElem?_set] at hh hx
        by_cases e : i = j
        · subst e
          rw [if_pos rfl, if_pos (by omega)] at hh
          rw [if_pos rfl, if_pos hi] at hx
          injection hh with hh; injection hx with hx
          subst hh; subst hx
          exact hS'
        · rw [if_neg e] at hh hx
          exact innr j h xs (h3 j h xs (fun h => e h.symm) hh hx)
    · rw [if_neg (by simpa using e), get_cons] at h
      by_cases e2 : σ = ρ
      · subst e2; rw [if_pos rfl] at h; cases h
      · rw [if_neg (by simpa using e2)] at h
        exact .inl ⟨⟨j, h⟩, rfl, fun g' q hg' _ => ⟨hkeepL g' _ hg' (by simp; intro h; exact absurd h.symm e2), hoth g' (by rintro rfl; rw [hO] at hg'; injection hg' with h1 _; exact e h1)⟩⟩
  · rw [get_cons] at h
    by_cases e : τ = ρ
    · subst e; rw [if_pos rfl] at h; cases h
    · rw [if_neg (by simpa using e), get_cons] at h
      by_cases e2 : σ = ρ
      · subst e2; rw [if_pos rfl] at h; cases h
      · rw [if_neg (by simpa using e2)] at h
        exact .inl ⟨h, rfl⟩

theorem Rel.tokSgl (R : Rel E n G s a w) {τ iv : Nat} {c : Ct} (hc : s.get (.tok τ) = .t iv c) : Sgl (G.H τ) := by
  obtain ⟨_, a, cap, e, _⟩ := (R.toks τ iv c hc).len
  rw [e]; trivial

theorem store_ok (hK : TyOK P K E) (R : Rel E n G s a w) {T : TypeId} {x y : Operand} (ho : o.op = .store T x y) (hd : dstOk n o.dst = true) (hu : Runs CR s (vop K o) u) : OpOK E n P G s a w o u := by
  simp only [vop, ho] at hu
  obtain ⟨v, hv, hu1⟩ := runs_opd hu
  obtain ⟨v', hv', hu2⟩ := runs_opd hu1
  clear hu hu1
  have hx := opv_ok R hv
  have hy := opv_ok R hv'
  have hT := hK T
  unfold storeOp at hu2
  cases v with
  | pt b =>
    simp only [Runs] at hu2
    have hx' : a.eval x = .pointer (some ⟨G.B b, 0, none⟩) := hx
    split at hu2
    · rename_i k0 m xs0 hc
      rcases R.boxes b _ hc with h | ⟨r1, val, e, r2, r3⟩
      · cases h
      cases v' with
      | sc v' => cases v' with
        | arr k m' xs =>
          cases hk : K T with
          | arr k' m'' =>
            rw [hk] at hT hu2
            obtain ⟨hm, hu2⟩ := hu2
            have hm' : m = m' ∧ m = m'' := by simpa using hm
            obtain ⟨rfl, rfl⟩ := hm'
            obtain ⟨el, h1, ⟨i, h2, h3, _⟩, _⟩ := hT
            obtain ⟨e1, e2⟩ := (show val = .agg (vints k0 xs0).toArray ∧ xs0.length = m from r3)
            obtain ⟨f1, f2⟩ := (show a.eval y = .agg (vints k xs).toArray ∧ xs.length = m from hy)
            subst e1
            have hcs : (a.eval y).cells = (vints k xs).toArray := by rw [f1]; rfl
            have hone : oneL (a.eval y) := by
              intro z hz
              rw [hcs] at hz
              simp [vints] at hz
              obtain ⟨q, _, rfl⟩ := hz
              rfl
            have hrun := exec_store (P := P) (w := w) ho hx' rfl h2 (by rw [h3, hcs]; simp [vints, f2]) r2 (by rw [hcs]; simp [vints, Value.cells, e2, f2]) hone
            refine store_end hd hrun (u' := [(.box b, .v (.sc (.arr k m xs)))]) (G' := G) ?_ hu2
            refine R.wrBox (e := e) hc (by intro h; cases h) hy ?_
            rw [hcs]
            simp [vints, Value.cells, e2, f2, List.drop_eq_nil_of_le]
          | _ => rw [hk] at hu2; exact hu2.elim
        | _ => exact hu2.elim
      | _ => exact hu2.elim
    · rename_i v0 hne hc
      obtain ⟨hb, hu2⟩ := hu2
      simp only [Bool.and_eq_true] at hb
      rcases R.boxes b _ hc with h | ⟨r1, val, e, r2, r3⟩
      · subst h; simp [VV.one] at hb
      · have hs := r3.sgl hb.1.2
        have hs' := hy.sgl hb.2
        obtain ⟨d, t1, t2, i, t3, t4⟩ := oneTy hK hb.1.1
        have hrun := exec_store (P := P) (w := w) ho hx' rfl t3 (by rw [t4, hs'.cells]; rfl) r2 (by rw [hs'.cells, hs.cells]; simp) hs'.oneL
        refine store_end hd hrun (u' := [(.box b, .v v')]) (G' := G) ?_ hu2
        refine R.wrBox (e := e) hc (by rintro rfl; simp [VV.one] at hb) hy ?_
        rw [hs'.cells, hs.cells]
        simp
    · exact hu2.elim
  | pa b l i =>
    obtain ⟨h1, hu2⟩ := hu2
    obtain ⟨d, t1, t2, inf, t3, t4⟩ := oneTy hK h1
    obtain ⟨x1, x2⟩ := (show a.eval x = .pointer (some ⟨G.B b, i, none⟩) ∧ i < l from hx)
    cases v' with
    | sc v' => cases v' with
      | int c z =>
        simp only [Runs] at hu2
        split at hu2
        · rename_i k m xs hc
          obtain ⟨hb, hu2⟩ := hu2
          have hb' : c = k ∧ l = m := by simpa using hb
          obtain ⟨rfl, rfl⟩ := hb'
          rcases R.boxes b _ hc with h | ⟨r1, val, e, r2, r3⟩
          · cases h
          obtain ⟨e1, e2⟩ := (show val = .agg (vints c xs).toArray ∧ xs.length = l from r3)
          subst e1
          have hy' : a.eval y = .int c z := hy
          have hrun := exec_store (P := P) (w := w) ho x1 hy' t3 (by rw [t4]; rfl) r2 (by simp [Value.cells, vints, e2]; omega) (by intro q hq; simp [Value.cells] at hq; subst hq; rfl)
          refine store_end hd hrun (u' := [(.box b, .v (.sc (.arr c l (xs.set i z))))]) (G' := G) ?_ hu2
          refine R.wrBox (e := e) (v := .sc (.arr c l (xs.set i z))) (val := .agg (vints c (xs.set i z)).toArray) hc (by intro h; cases h) ⟨rfl, by simp [e2]⟩ ?_
          have : ((vints c xs).toArray.toList.take i ++ [Value.int c z] ++ (vints c xs).toArray.toList.drop (i + 1)) = vints c (xs.set i z) := by
            rw [take_set_drop _ _ _ (by simp [vints]; omega)]
            simp [vints, List.map_set]
          simpa [Value.cells] using this
        · exact hu2.elim
      | _ => exact hu2.elim
    | _ => exact hu2.elim
  | ea τ i =>
    obtain ⟨h1, hu2⟩ := hu2
    obtain ⟨d, t1, t2, inf, t3, t4⟩ := oneTy hK h1
    cases v' with
    | sc v' => cases v' with
      | int c z =>
        simp only [Runs] at hu2
        split at hu2
        · rename_i iv k xs hc
          obtain ⟨hb, hu2⟩ := hu2
          have hb' : c = k := by simpa using hb
          subst hb'
          obtain ⟨hi, hp⟩ := hx.2 _ _ hc
          have hVC := R.toks τ _ _ hc
          obtain ⟨g, cap, y0, e, cur, q1, q2, q3, q4, q5⟩ := hVC.cellAt hi
          simp only [Ct.len] at hi
          rw [q1] at hp
          simp only [ptrTo, add0] at hp
          have hy' : a.eval y = .int c z := hy
          obtain ⟨gg, cap2, s1, s2, s3, cur2, s4⟩ := SlO.cell hVC (i := i) (u := .int c xs[i]) (by simp [vints, List.getElem?_eq_getElem hi])
          rw [q1] at s1
          injection s1 with s1 _ s1c
          injection s1 with s1
          injection s1 with s1
          subst s1
          rw [q4] at s4
          injection s4 with s4
          injection s4 with s4a s4b
          subst s4a; subst s4b
          have hicur : i < cur.size := by
            simp only [World.cell?, q4] at q3
            simp at q3
            exact (Array.getElem?_eq_some_iff.1 q3).1
          have hrun := exec_store (P := P) (w := w) ho hp hy' t3 (by rw [t4]; rfl) q4 (by simp [Value.cells]; omega) (by intro q hq; simp [Value.cells] at hq; subst hq; rfl)
          refine store_end hd hrun (u' := [(.tok τ, .t iv (.ints c (xs.set i z)))]) (G' := G) ?_ hu2
          have hrow : (cur.toList.take i ++ (Value.int c z).cells.toList ++ cur.toList.drop (i + (Value.int c z).cells.size)) = cur.toList.set i (.int c z) := by
            simpa [Value.cells] using take_set_drop cur.toList i (.int c z) (by simpa using hicur)
          rw [hrow]
          refine R.wrTok q2 hc (by simp [Ct.len]) (Nat.le_refl _) (fun _ k m hm => by simp [rowLen] at hm) ?_
          have := SlO.set hVC (i := i) (by simpa [vints] using hi) (cap := cap) (by rw [q1]; simp [vints, Ct.len]) (.int c z) q4
          simpa [VC, vints, List.map_set] using this
        · exact hu2.elim
      | _ => exact hu2.elim
    | rf σ =>
      have main : ∀ (iv iv' iv2 : Nat) (c : Ct) (xss : List (List Int)) (ys : List Int), s.get (.tok τ) = .t iv c → ((c = .rows true xss ∧ iv' = iv + 1) ∨ (c = .hole i xss ∧ iv' = iv)) → s.get (.tok σ) = .t iv2 (.ints .i64 ys) →
          (u = match o.dst with | some t => (.slot t, .v .ud) :: [(.tok τ, .t iv' (.rows true (xss.set i ys))), (.tok σ, .v .un)] | none => [(.tok τ, .t iv' (.rows true (xss.set i ys))), (.tok σ, .v .un)]) → OpOK E n P G s a w o u := by
        intro iv iv' iv2 c xss ys hc hcc hσ hu
        obtain ⟨hi, hp⟩ := hx.2 _ _ hc
        have hlen : c.len = xss.length := by rcases hcc with ⟨rfl, _⟩ | ⟨rfl, _⟩ <;> rfl
        obtain ⟨hs, k1, k2⟩ : ∃ hs, SlO G.O w (.ow τ none) E.eR (G.H τ) hs ∧ hs.length = xss.length := by
          have hV := R.toks τ iv c hc
          rcases hcc with ⟨rfl, _⟩ | ⟨rfl, _⟩
          · obtain ⟨hs, h1, h2, _⟩ := hV; exact ⟨hs, h1, h2⟩
          · obtain ⟨hs, h1, h2, _⟩ := hV; exact ⟨hs, h1, h2⟩
        rw [hlen] at hi
        have hi' : i < hs.length := by omega
        obtain ⟨g, cap, q1, q2, q3, cur, q4⟩ := k1.cell (List.getElem?_eq_getElem hi')
        rw [k2] at q1
        rw [q1] at hp
        simp only [ptrTo, add0] at hp
        have hyv : a.eval y = G.H σ := hy.2 (by rw [hσ]; rfl)
        have hicur : i < cur.size := by
          simp only [World.cell?, q4] at q3
          simp at q3
          exact (Array.getElem?_eq_some_iff.1 q3).1
        have hsg := R.tokSgl hσ
        have hrun := exec_store (P := P) (w := w) ho hp hyv t3 (by rw [t4, hsg.cells]; rfl) q4 (by rw [hsg.cells]; simp; omega) hsg.oneL
        obtain ⟨G', r1, r2⟩ := R.putInner hc hcc hσ hi q1 q2 q4
        have hrow : (cur.toList.take i ++ (G.H σ).cells.toList ++ cur.toList.drop (i + (G.H σ).cells.size)) = cur.toList.set i (G.H σ) := by
          rw [hsg.cells]
          simpa using take_set_drop cur.toList i (G.H σ) (by simpa using hicur)
        rw [hrow] at hrun
        exact store_end hd hrun (u' := [(.tok τ, .t iv' (.rows true (xss.set i ys))), (.tok σ, .v .un)]) ⟨r1, r2⟩ hu
      simp only [Runs] at hu2
      split at hu2
      · rename_i iv xss hc
        change Runs CR s (match s.get (.tok σ) with | .t _ (.ints .i64 ys) => _ | _ => .fail) u at hu2
        generalize hσ : s.get (.tok σ) = sv at hu2
        cases sv with
        | t iv2 c2 => cases c2 with
          | ints k2 ys => cases k2 with
            | i64 => exact main iv (iv + 1) iv2 _ xss ys hc (.inl ⟨rfl, rfl⟩) hσ hu2
            | _ => exact hu2.elim
          | _ => exact hu2.elim
        | _ => exact hu2.elim
      · rename_i iv j xss hc
        obtain ⟨hj, hu2⟩ := hu2
        have hj' : i = j := by simpa using hj
        subst hj'
        change Runs CR s (match s.get (.tok σ) with | .t _ (.ints .i64 ys) => _ | _ => .fail) u at hu2
        generalize hσ : s.get (.tok σ) = sv at hu2
        cases sv with
        | t iv2 c2 => cases c2 with
          | ints k2 ys => cases k2 with
            | i64 => exact main iv iv iv2 _ xss ys hc (.inr ⟨rfl, rfl⟩) hσ hu2
            | _ => exact hu2.elim
          | _ => exact hu2.elim
        | _ => exact hu2.elim
      · exact hu2.elim
    | _ => exact hu2.elim
  | ei τ iv k j =>
    obtain ⟨h1, hu2⟩ := hu2
    obtain ⟨d, t1, t2, inf, t3, t4⟩ := oneTy hK h1
    cases v' with
    | sc v' => cases v' with
      | int c z =>
        cases c with
        | i64 =>
          simp only [Runs] at hu2
          split at hu2
          · rename_i iv' xss hc
            obtain ⟨hb, hu2⟩ := hu2
            have hb' : iv = iv' := by simpa using hb
            subst hb'
            obtain ⟨l, hdr, r1, r2, r3, r4⟩ := (hx.2 _ _ hc).2 rfl
            have hV := R.toks τ _ _ hc
            obtain ⟨s1, s2, s3⟩ := hV.inner r1 r3
            have hlt : j < (xss.getD k []).length := by omega
            obtain ⟨g, cap, e1, e2, e3, cur, e4⟩ := SlO.cell s1 (i := j) (u := .int .i64 (xss.getD k [])[j]) (by simp [vints, List.getElem?_eq_getElem hlt])
            rw [e1] at r4
            simp only [ptrTo, add0] at r4
            have hy' : a.eval y = .int .i64 z := hy
            have hicur : j < cur.size := by
              simp only [World.cell?, e4] at e3
              simp at e3
              exact (Array.getElem?_eq_some_iff.1 e3).1
            have hrun := exec_store (P := P) (w := w) ho r4 hy' t3 (by rw [t4]; rfl) e4 (by simp [Value.cells]; omega) (by intro q hq; simp [Value.cells] at hq; subst hq; rfl)
            have hrow : (cur.toList.take j ++ (Value.int .i64 z).cells.toList ++ cur.toList.drop (j + (Value.int .i64 z).cells.size)) = cur.toList.set j (.int .i64 z) := by
              simpa [Value.cells] using take_set_drop cur.toList j (.int .i64 z) (by simpa using hicur)
            rw [hrow] at hrun
            refine store_end hd hrun (u' := [(.tok τ, .t iv (.rows true (xss.set k ((xss.getD k []).set j z))))]) (G' := G) ?_ hu2
            have hoth : ∀ q, q ≠ g → (w.setRow g (cur.toList.set j (.int .i64 z)).toArray).heap[q]? = w.heap[q]? := fun q hq => setRow_other w g q _ hq
            have hset := SlO.set s1 (i := j) (by simpa [vints] using hlt) (cap := cap) e1 (.int .i64 z) e4
            refine R.wrTok e2 hc (by simp [Ct.len]) (Nat.le_refl _) (fun _ k' m hm => ⟨?_, hV.outer (fun q hq => hoth q (by rintro rfl; rw [e2] at hq; cases hq)) k' m hm⟩) ?_
            · simp only [rowLen, Option.map_eq_some_iff] at hm ⊢
              obtain ⟨xs, h1, h2⟩ := hm
              rw [List.getElem?_set]
              by_cases ek : k = k'
              · subst ek
                rw [if_pos rfl, if_pos s2]
                refine ⟨_, rfl, ?_⟩
                have : xss.getD k [] = xs := by simp [List.getD_eq_getElem?_getD, h1]
                rw [this]; simpa using h2
              · rw [if_neg ek]; exact ⟨xs, h1, h2⟩
            · obtain ⟨hs, k1, k2, k3⟩ := hV
              refine ⟨hs, k1.keep fun q hq _ => ⟨hq, hoth q (by rintro rfl; rw [e2] at hq; cases hq)⟩, by simpa using k2, fun k' h xs hh hx => ⟨fun _ => ?_, fun e => (by cases e)⟩⟩
              rw [List.getElem?_set] at hx
              by_cases ek : k = k'
              · subst ek
                rw [if_pos rfl, if_pos s2] at hx
                injection hx with hx
                subst hx
                have hk2 : k < hs.length := by omega
                obtain ⟨g2, cap2, z1, _, z3, _⟩ := k1.cell hh
                rw [z1] at r3
                simp only [cellOf, add0] at r3
                rw [z3] at r3
                injection r3 with r3
                subst r3
                simpa [vints, List.map_set] using hset
              · rw [if_neg ek] at hx
                exact ((k3 k' h xs hh hx).1 rfl).keep fun q hq _ => ⟨hq, hoth q (by rintro rfl; rw [e2] at hq; injection hq with _ hq; injection hq with hq; exact ek hq)⟩
          · exact hu2.elim
        | _ => exact hu2.elim
      | _ => exact hu2.elim
    | _ => exact hu2.elim
  | _ => exact hu2.2.elim
end
end Go.Tm
