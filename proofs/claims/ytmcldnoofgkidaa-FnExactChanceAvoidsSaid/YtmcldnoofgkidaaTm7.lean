/- The T-machine: loads, cuts, stores. -/
import Derived.Test.YtmcldnoofgkidaaTm6
set_option linter.unusedVariables false
set_option linter.unusedSimpArgs false
namespace Go.Tm
open Go.RowKit
section
variable {P : Program} {K : Kf} {E : El} {n : Nat} {G : Gh} {s : St} {a : Act} {w : World} {CR : CRel} {o : Oper} {u : St}

theorem getD_lt {α : Type} (ys : List α) (j : Nat) (d : α) (h : j < ys.length) : ys[j] = ys.getD j d := by
  simp [List.getD_eq_getElem?_getD, h]

theorem Sgl.cells {v : Value} (h : Sgl v) : v.cells = #[v] := by
  cases v with
  | agg c => exact h.elim
  | _ => rfl

theorem VR.sgl {val : Value} {v : VV} (h : VR G s w val v) (h1 : v.one = true) : Sgl val := by
  cases v with
  | sc x =>
    cases x with
    | int k z => have e : val = .int k z := h; subst e; trivial
    | bool z => have e : val = .bool z := h; subst e; trivial
    | str z => have e : val = .string z := h; subst e; trivial
    | nil => have e : val = .slice none 0 0 := h; subst e; trivial
    | ints k xs => obtain ⟨a, cap, rfl, _⟩ := (show SlI _ _ _ _ from h); trivial
    | strs xs => obtain ⟨a, cap, rfl, _⟩ := (show SlI _ _ _ _ from h); trivial
    | rows xs => obtain ⟨hs, ⟨a, cap, rfl, _⟩, _⟩ := h; trivial
    | arr k m xs => cases h1
  | rf τ => exact h.1
  | rw τ lo m => exact h.1
  | ri τ iv k => exact h.1
  | ea τ i => exact h.1
  | ei τ iv k j => exact h.1
  | ai x => obtain ⟨ad, y, rfl, _⟩ := h; trivial
  | pt b => have e : val = .pointer _ := h; subst e; trivial
  | pa b m i => have e : val = .pointer _ := h.1; subst e; trivial
  | fn f cs => have e : val = .func _ _ _ := h; subst e; trivial
  | nf => have e : val = .nilFunc := h; subst e; trivial
  | tp xs => cases h1
  | ud => cases h1
  | un => cases h1

/-- A cell of a token's own row. -/
theorem VC.cellAt {τ : Nat} {c : Ct} (h : VC E G.O w τ (G.H τ) c) {i : Nat} (hi : i < c.len) : ∃ g cap x e cur, G.H τ = .slice (some ⟨g, 0, none⟩) c.len cap ∧ G.O g = .ow τ none ∧ w.cell? ⟨g, i, none⟩ = some x ∧ w.heap[g]? = some (.cells cur e (0, 0)) ∧
    (match c with
     | .ints k xs => x = .int k (xs.getD i 0)
     | .strs xs => x = .string (xs.getD i ⟨#[]⟩)
     | .rows true xss => rowLen (.rows true xss) i = some (xss.getD i []).length ∧ Sgl x
     | .rows false xss => SlI G.O w x (vints .i64 (xss.getD i []))
     | .hole _ _ => True) := by
  cases c with
  | ints k xs =>
    simp only [Ct.len] at hi
    obtain ⟨g, cap, e1, e2, e3, cur, e4⟩ := SlO.cell h (i := i) (u := .int k xs[i]) (by simp [vints, List.getElem?_eq_getElem hi])
    refine ⟨g, cap, _, _, cur, by simpa [vints, Ct.len] using e1, e2, e3, e4, ?_⟩
    simp [List.getD_eq_getElem?_getD, List.getElem?_eq_getElem hi]
  | strs xs =>
    simp only [Ct.len] at hi
    obtain ⟨g, cap, e1, e2, e3, cur, e4⟩ := SlO.cell h (i := i) (u := .string xs[i]) (by simp [vstrs, List.getElem?_eq_getElem hi])
    refine ⟨g, cap, _, _, cur, by simpa [vstrs, Ct.len] using e1, e2, e3, e4, ?_⟩
    simp [List.getD_eq_getElem?_getD, List.getElem?_eq_getElem hi]
  | rows own xss =>
    simp only [Ct.len] at hi
    obtain ⟨hs, h1, h2, h3⟩ := h
    have hi' : i < hs.length := by omega
    obtain ⟨g, cap, e1, e2, e3, cur, e4⟩ := h1.cell (List.getElem?_eq_getElem hi')
    obtain ⟨a1, a2⟩ := h3 i _ _ (List.getElem?_eq_getElem hi') (List.getElem?_eq_getElem hi)
    have ed : xss.getD i [] = xss[i] := by simp [List.getD_eq_getElem?_getD, List.getElem?_eq_getElem hi]
    refine ⟨g, cap, _, _, cur, by rw [h2] at e1; exact e1, e2, e3, e4, ?_⟩
    cases own with
    | true =>
      refine ⟨by simp [rowLen, List.getElem?_eq_getElem hi, ed], ?_⟩
      obtain ⟨_, a, cap, e, _⟩ := (a1 rfl).len
      rw [e]; trivial
    | false => dsimp only; rw [ed]; exact a2 rfl
  | hole k xss =>
    simp only [Ct.len] at hi
    obtain ⟨hs, h1, h2, h3⟩ := h
    have hi' : i < hs.length := by omega
    obtain ⟨g, cap, e1, e2, e3, cur, e4⟩ := h1.cell (List.getElem?_eq_getElem hi')
    exact ⟨g, cap, _, _, cur, by rw [h2] at e1; exact e1, e2, e3, e4, trivial⟩

theorem load_ok (hK : TyOK P K E) (R : Rel E n G s a w) {T : TypeId} {x : Operand} (ho : o.op = .load T x) (hd : dstOk n o.dst = true) (hu : Runs CR s (vop K o) u) : OpOK E n P G s a w o u := by
  simp only [vop, ho] at hu
  obtain ⟨v, hv, hu⟩ := runs_opd hu
  have hx := opv_ok R hv
  have hT := hK T
  unfold loadOp at hu
  cases v with
  | pt b =>
    simp only [Runs] at hu
    have hx' : a.eval x = .pointer (some ⟨G.B b, 0, none⟩) := hx
    split at hu
    · rename_i k m xs hc
      rcases R.boxes b _ hc with h | ⟨r1, val, e, r2, r3⟩
      · cases h
      · cases hk : K T with
        | arr k' m' =>
          rw [hk] at hT hu
          obtain ⟨hm, hu⟩ := hu
          have hm' : m = m' := by simpa using hm
          subst hm'
          obtain ⟨el, h1, ⟨i, h2, h3, _⟩, _⟩ := hT
          obtain ⟨e1, e2⟩ := (show val = .agg (vints k xs).toArray ∧ xs.length = m from r3)
          subst e1
          refine put_ok R hd (exec_loadA (cur := (vints k xs).toArray) ho hx' h1 h2 (by simp [h3, vints, e2]) r2) ?_ hu
          exact ⟨rfl, e2⟩
        | _ => rw [hk] at hu; exact hu.elim
    · rename_i y hne hc
      obtain ⟨hb, hu⟩ := hu
      simp only [Bool.and_eq_true] at hb
      rcases R.boxes b _ hc with h | ⟨r1, val, e, r2, r3⟩
      · subst h; simp [VV.one] at hb
      · have hs := r3.sgl hb.2
        obtain ⟨d, t1, t2, _⟩ := oneTy hK hb.1
        refine put_ok R hd (exec_load1 (v := val) ho hx' t1 t2 ?_) r3 hu
        simp [World.cell?, r2, hs.cells]
    · exact hu.elim
  | ai y =>
    obtain ⟨h1, hu⟩ := hu
    obtain ⟨d, t1, t2, _⟩ := oneTy hK h1
    obtain ⟨ad, val, e1, e2, e3, e4⟩ := hx
    exact put_ok R hd (exec_load1 ho e1 t1 t2 e3) (x := .sc y) e4 hu
  | ea τ i =>
    obtain ⟨h1, hu⟩ := hu
    obtain ⟨d, t1, t2, _⟩ := oneTy hK h1
    simp only [Runs] at hu
    split at hu
    · rename_i iv k xs hc
      obtain ⟨hi, hp⟩ := hx.2 _ _ hc
      obtain ⟨g, cap, y, e, cur, q1, q2, q3, q4, q5⟩ := (R.toks τ _ _ hc).cellAt hi
      rw [q1] at hp
      exact put_ok R hd (exec_load1 ho (by rw [hp]; simp only [ptrTo, add0]) t1 t2 q3) (x := .sc (.int k (xs.getD i 0))) q5 hu
    · rename_i iv xs hc
      obtain ⟨hi, hp⟩ := hx.2 _ _ hc
      obtain ⟨g, cap, y, e, cur, q1, q2, q3, q4, q5⟩ := (R.toks τ _ _ hc).cellAt hi
      rw [q1] at hp
      exact put_ok R hd (exec_load1 ho (by rw [hp]; simp only [ptrTo, add0]) t1 t2 q3) (x := .sc (.str (xs.getD i ⟨#[]⟩))) q5 hu
    · rename_i iv xss hc
      obtain ⟨hi, hp⟩ := hx.2 _ _ hc
      obtain ⟨g, cap, y, e, cur, q1, q2, q3, q4, q5⟩ := (R.toks τ _ _ hc).cellAt hi
      rw [q1] at hp
      refine put_ok R hd (exec_load1 ho (by rw [hp]; simp only [ptrTo, add0]) t1 t2 q3) (x := .ri τ iv i) ?_ hu
      refine ⟨q5.2, fun iv' c' hc' => ?_⟩
      rw [hc] at hc'
      injection hc' with e0 e1
      subst e0; subst e1
      refine ⟨Nat.le_refl _, fun _ => ⟨_, q5.1, ?_⟩⟩
      rw [q1]
      simp only [cellOf, add0]
      exact q3
    · rename_i iv xss hc
      obtain ⟨hi, hp⟩ := hx.2 _ _ hc
      obtain ⟨g, cap, y, e, cur, q1, q2, q3, q4, q5⟩ := (R.toks τ _ _ hc).cellAt hi
      rw [q1] at hp
      exact put_ok R hd (exec_load1 ho (by rw [hp]; simp only [ptrTo, add0]) t1 t2 q3) (x := .sc (.ints .i64 (xss.getD i []))) q5 hu
    · exact hu.elim
  | ei τ iv k j =>
    obtain ⟨h1, hu⟩ := hu
    obtain ⟨d, t1, t2, _⟩ := oneTy hK h1
    simp only [Runs] at hu
    split at hu
    · rename_i iv' xss hc
      obtain ⟨hb, hu⟩ := hu
      have hb' : iv = iv' := by simpa using hb
      subst hb'
      obtain ⟨l, hdr, r1, r2, r3, r4⟩ := (hx.2 _ _ hc).2 rfl
      obtain ⟨s1, s2, s3⟩ := (R.toks τ _ _ hc).inner r1 r3
      have hlt : j < (xss.getD k []).length := by omega
      obtain ⟨g, cap', e1, e2, e3, _⟩ := SlO.cell s1 (i := j) (u := .int .i64 (xss.getD k [])[j]) (by simp [vints, List.getElem?_eq_getElem hlt])
      rw [e1] at r4
      refine put_ok R hd (exec_load1 ho (by rw [r4]; simp only [ptrTo, add0]) t1 t2 e3) (x := .sc (.int .i64 ((xss.getD k []).getD j 0))) ?_ hu
      show _ = Value.int _ _
      rw [getD_lt (xss.getD k []) j 0 hlt]
    · exact hu.elim
  | pa b l i =>
    obtain ⟨h1, hu⟩ := hu
    obtain ⟨d, t1, t2, _⟩ := oneTy hK h1
    simp only [Runs] at hu
    split at hu
    · rename_i k m xs hc
      obtain ⟨hb, hu⟩ := hu
      have hb' : l = m := by simpa using hb
      subst hb'
      rcases R.boxes b _ hc with h | ⟨r1, val, e, r2, r3⟩
      · cases h
      · obtain ⟨e1, e2⟩ := (show val = .agg (vints k xs).toArray ∧ xs.length = l from r3)
        subst e1
        obtain ⟨x1, x2⟩ := hx
        have hlt : i < xs.length := by omega
        refine put_ok R hd (exec_load1 (v := .int k xs[i]) ho x1 t1 t2 ?_) (x := .sc (.int k (xs.getD i 0))) ?_ hu
        · simp [World.cell?, r2, Value.cells, vints, List.getElem?_eq_getElem hlt]
        · show _ = Value.int _ _
          simp [List.getD_eq_getElem?_getD, List.getElem?_eq_getElem hlt]
    · exact hu.elim
  | _ => exact hu.2.elim

theorem cutB_iff {l h : Int} {m : Nat} (hc : cutB l h m = true) : 0 ≤ l ∧ l ≤ h ∧ h ≤ m := by
  simp only [cutB, Bool.and_eq_true, iLe_iff] at hc
  exact ⟨hc.1.1, hc.1.2, hc.2⟩

/-- A cut of a slice's value is a part of it. -/
theorem isWin_cut {ad : Option Addr} {m cap : Nat} {l h : Int} (hm : m ≤ cap) (h0 : 0 ≤ l) (h1 : l ≤ h) (h2 : h ≤ m) :
    IsWin (.slice ad m cap) (.slice (if cap = l.toNat then ad else ad.map (·.add l.toNat)) (h.toNat - l.toNat) (cap - l.toNat)) l.toNat (h.toNat - l.toNat) := by
  refine ⟨ad, m, cap, _, rfl, by omega, hm, rfl, fun hp => ?_⟩
  by_cases hc : cap = l.toNat
  · rw [if_pos hc]
    rcases hp with hp | hp
    · omega
    · rw [hp, map_add_zero]
  · rw [if_neg hc]

theorem isWin_win {hv v v' : Value} {lo k l m : Nat} (h1 : IsWin hv v lo k) (h2 : IsWin v v' l m) : IsWin hv v' (lo + l) m := by
  obtain ⟨a, len, cap, a1, rfl, q1, q2, rfl, q3⟩ := h1
  obtain ⟨b, len', cap', b1, he, p1, p2, rfl, p3⟩ := h2
  injection he with e1 e2 e3
  subst e1; subst e2; subst e3
  refine ⟨a, len, cap, b1, rfl, by omega, q2, by rw [Nat.sub_sub], fun hp => ?_⟩
  have : b1 = a1.map (·.add l) := p3 (by omega)
  rw [this, q3 (by omega)]
  cases a <;> simp [add_add]

def offO (O : Lbl) (τ : Nat) : Lbl := fun g => match O g with
  | .ow σ (some j) => if σ = τ then .im else .ow σ (some j)
  | l => l

/-- A token's inner rows are read alone from here on. -/
theorem Rel.rowsOff (R : Rel E n G s a w) {τ iv : Nat} {xss : List (List Int)} (hc : s.get (.tok τ) = .t iv (.rows true xss)) {O' : Lbl} (hO : O' = offO G.O τ) {s' : St} (hs' : s' = (.tok τ, .t (iv + 1) (.rows false xss)) :: s) :
    Rel E n { G with O := O' } s' a w ∧ Fr G.O w O' w := by
  have him : ∀ g, G.O g = .im → O' g = .im := by intro g h; rw [hO]; simp [offO, h]
  have hno : ∀ g, G.O g = .no → O' g = .no := by intro g h; rw [hO]; simp [offO, h]
  have hbx : ∀ g b, G.O g = .bx b → O' g = .bx b := by intro g b h; rw [hO]; simp [offO, h]
  have how0 : ∀ g σ, G.O g = .ow σ none → O' g = .ow σ none := by intro g b h; rw [hO]; simp [offO, h]
  have how : ∀ g σ p, σ ≠ τ → G.O g = .ow σ p → O' g = .ow σ p := by
    intro g σ p hne h; rw [hO]; cases p <;> simp [offO, h, hne]
  have hin : ∀ g j, G.O g = .ow τ (some j) → O' g = .im := by intro g j h; rw [hO]; simp [offO, h]
  subst hs'
  have hts : ∀ σ, TokStep G s w { G with O := O' } ((.tok τ, .t (iv + 1) (.rows false xss)) :: s) w σ := by
    intro σ
    by_cases e : τ = σ
    · subst e
      refine ⟨fun _ => ⟨by rw [hc]; rfl, rfl⟩, fun iv' c' h => ?_⟩
      rw [get_cons, if_pos rfl] at h
      injection h with h1 h2
      subst h1; subst h2
      exact ⟨iv, _, hc, by omega, rfl, fun e => by omega⟩
    · exact TokStep.same (by rw [get_cons, if_neg (by simpa using e)]) rfl fun _ _ _ _ _ _ => rfl
  refine ⟨R.step R.size R.defers (fun g h => ⟨him g h, rfl⟩) (fun t v hv => ?_) (fun b v hv => ?_) (fun σ i c h => ?_) (fun σ x h => ?_) (fun g hg => hno g (R.fresh g hg)),
    ⟨rfl, rfl, rfl, Nat.le_refl _, fun g h => ⟨him g h, rfl⟩, fun g _ h => ⟨hno g h, rfl⟩⟩⟩
  · rw [get_cons] at hv
    simp only [reduceCtorEq, if_false] at hv
    exact .inl ⟨hv, rfl, fun σ _ => hts σ, fun _ _ => rfl⟩
  · rw [get_cons] at hv
    simp only [reduceCtorEq, if_false] at hv
    exact .inr (.inl ⟨hv, rfl, fun h => ⟨hbx _ _ h, rfl⟩, fun σ _ => hts σ, fun _ _ => rfl⟩)
  · rw [get_cons] at h
    by_cases e : τ = σ
    · subst e
      rw [if_pos rfl] at h
      injection h with h1 h2
      subst h1; subst h2
      refine .inr ?_
      obtain ⟨hs, r1, r2, r3⟩ := R.toks τ _ _ hc
      refine ⟨hs, SlO.keep r1 fun g hg _ => ⟨how0 g τ hg, rfl⟩, r2, fun j h xs hh hx => ⟨fun e => (by cases e), fun _ => ?_⟩⟩
      exact ((r3 j h xs hh hx).1 rfl).lent fun g hg => hin g j hg
    · rw [if_neg (by simpa using e)] at h
      exact .inl ⟨⟨i, h⟩, rfl, fun g p hg _ => ⟨how g σ p (fun h => e h.symm) hg, rfl⟩⟩
  · rw [get_cons] at h
    by_cases e : τ = σ
    · subst e; rw [if_pos rfl] at h; cases h
    · rw [if_neg (by simpa using e)] at h
      exact .inl ⟨h, rfl⟩

theorem slice_ok (hK : TyOK P K E) (R : Rel E n G s a w) {T : TypeId} {x : Operand} {lo hi mx : Option Operand} (ho : o.op = .slice T x lo hi mx) (hd : dstOk n o.dst = true) (hu : Runs CR s (vop K o) u) : OpOK E n P G s a w o u := by
  simp only [vop, ho] at hu
  cases mx with
  | some y => exact hu.elim
  | none =>
    obtain ⟨v, hv, hu⟩ := runs_opd hu
    have hx := opv_ok R hv
    unfold sliceOp at hu
    cases hty : lenTy (K T) v with
    | false => rw [hty] at hu; exact hu.elim
    | true =>
      rw [hty] at hu
      simp only [cond_true] at hu
      obtain ⟨m, hm, hu1⟩ := runs_lenOf R hx hu
      obtain ⟨l, hl, hu2⟩ := runs_bnd R hu1
      obtain ⟨h, hh, hu3⟩ := runs_bnd R hu2
      obtain ⟨hcut, hf⟩ := hu3
      clear hu hu1 hu2
      obtain ⟨h0, h1, h2⟩ := cutB_iff hcut
      rcases hm with ⟨z, rfl, hz, rfl⟩ | ⟨hns, hml, ad, cap, hz, hc⟩
      · have hty' : (K T).isStr = true := hty
        dsimp only at hf
        cases hk : K T with
        | str =>
          have hT := hK T
          rw [hk] at hT
          exact put_ok R hd (exec_sliceS ho hz hT.1 hl hh h0 h1 h2) (x := .sc (.str (z.extract l.toNat h.toNat))) rfl hf
        | _ => rw [hk] at hty'; cases hty'
      · have hsl : (K T).isSl = true := by
          cases v with
          | sc y => cases y with
            | str z => exact absurd rfl (hns z)
            | _ => exact hty
          | _ => exact hty
        obtain ⟨e, inf, t1, t2, t3, _⟩ := slTy hK hsl
        have hrun := exec_sliceL (P := P) (w := w) ho hz t1 t2 t3 hc hl hh h0 h1 h2
        have hwin : IsWin (a.eval x) (.slice (if cap = l.toNat then ad else ad.map (·.add l.toNat)) (h.toNat - l.toNat) (cap - l.toNat)) l.toNat (h.toNat - l.toNat) := by rw [hz]; exact isWin_cut hc h0 h1 h2
        have simp_cut : ∀ y : PV, (∃ m, y.slen = some m ∧ y ≠ .nil) → VP G.O w (a.eval x) y → VP G.O w (.slice (if cap = l.toNat then ad else ad.map (·.add l.toNat)) (h.toNat - l.toNat) (cap - l.toNat)) (y.cut l.toNat (h.toNat - l.toNat)) := fun y hy hvp => hvp.win hy hwin
        cases v with
        | sc y =>
          cases y with
          | nil =>
            have e : a.eval x = .slice none 0 0 := hx
            rw [e] at hz
            injection hz with e1 e2 e3
            subst e1; subst e2; subst e3
            have hl0 : l.toNat = 0 := by omega
            have hh0 : h.toNat = 0 := by omega
            rw [hl0, hh0] at hrun
            exact put_ok R hd hrun (x := .sc .nil) (by show _ = Value.slice none 0 0; simp) hf
          | ints k xs => exact put_ok R hd hrun (x := .sc ((PV.ints k xs).cut l.toNat (h.toNat - l.toNat))) (simp_cut (.ints k xs) ⟨_, rfl, by intro h; cases h⟩ hx) hf
          | strs xs => exact put_ok R hd hrun (x := .sc ((PV.strs xs).cut l.toNat (h.toNat - l.toNat))) (simp_cut (.strs xs) ⟨_, rfl, by intro h; cases h⟩ hx) hf
          | rows xs => exact put_ok R hd hrun (x := .sc ((PV.rows xs).cut l.toNat (h.toNat - l.toNat))) (simp_cut (.rows xs) ⟨_, rfl, by intro h; cases h⟩ hx) hf
          | str z => exact absurd rfl (hns z)
          | _ => exact hf.elim
        | rf τ =>
          refine put_ok R hd hrun (x := .rw τ l.toNat (h.toNat - l.toNat)) ⟨trivial, fun hlive => ?_⟩ hf
          have := hx.2 hlive
          rw [← this]
          exact hwin
        | rw τ b k =>
          refine put_ok R hd hrun (x := .rw τ (b + l.toNat) (h.toNat - l.toNat)) ⟨trivial, fun hlive => ?_⟩ hf
          exact isWin_win (hx.2 hlive) hwin
        | ri τ iv k =>
          simp only [Runs] at hf
          split at hf
          · rename_i iv' xss hcx
            obtain ⟨hb, hf⟩ := hf
            have hb' : iv = iv' := by simpa using hb
            subst hb'
            obtain ⟨q, r1, r2⟩ := (hx.2 _ _ hcx).2 rfl
            cases hdst : o.dst with
            | none => rw [hdst] at hf; exact hf.elim
            | some t =>
              rw [hdst] at hf hd
              simp only [Runs] at hf
              subst hf
              refine OpOK.of_value hrun ?_
              obtain ⟨R1, f1⟩ := R.rowsOff hcx rfl rfl
              refine ⟨{ G with O := offO G.O τ }, ?_, f1⟩
              rw [hdst]
              refine R1.slot (by simpa [dstOk, Nat.blt_eq] using hd) ?_
              have hin := ((R.toks τ _ _ hcx).inner r1 r2).1
              have : VP _ w (a.eval x) (.ints .i64 (xss.getD k [])) := SlO.lent (O' := offO G.O τ) hin fun g hg => by simp [offO, hg]
              exact this.win ⟨_, rfl, by intro h; cases h⟩ hwin
          · exact hf.elim
        | _ => exact hf.elim
end
end Go.Tm
