/- The T-machine: calls of functions are sound, given the contracts. -/
import Derived.Test.YtmcldnoofgkidaaTm27
set_option linter.unusedVariables false
set_option linter.unusedSimpArgs false
namespace Go.Tm
open Go.RowKit

/-- The caller's labels when what was lent is lent for good. -/
def shrO (sh : Bool) (O : Lbl) (lent : List Nat) : Lbl := fun g => match O g with
  | .ow τ p => if sh = true ∧ τ ∈ lent then .im else .ow τ p
  | l => l

theorem shrO_other {sh : Bool} {O : Lbl} {lent : List Nat} {g : Nat} {l : Lab} (h : O g = l) (hl : ∀ τ p, l ≠ .ow τ p) : shrO sh O lent g = l := by
  unfold shrO
  rw [h]
  cases l with
  | ow τ p => exact absurd rfl (hl τ p)
  | _ => rfl

theorem vp_plain {O O' : Lbl} {w w' : World} {v : Value} {x : PV} (hx : (CV.sc x).shares = false) (h : VP O w v x) : VP O' w' v x := by
  cases x <;> first | exact h | simp [CV.shares] at hx

theorem VC.sgl {E : El} {O : Lbl} {w : World} {τ : Nat} {v : Value} {c : Ct} (h : VC E O w τ v c) : Sgl v := by
  cases c with
  | ints k xs => exact SlO.sgl h
  | strs xs => exact SlO.sgl h
  | rows own xss => obtain ⟨hs, h1, _⟩ := h; exact h1.sgl
  | hole k xss => obtain ⟨hs, h1, _⟩ := h; exact h1.sgl

theorem cvr_vr {E : El} {O' O2 : Lbl} {G' : Gh} {s' : St} {w' : World} {B : Key → Nat} {ks : List Key} {σ τ : Nat} {v : Value} {c : CV} (h : CVR E O' w' (callB B ks) σ v c)
    (him : c.shares = false ∨ ∀ g, O' g = .im → G'.O g = .im) (hB : G'.B = B) (hH : ∀ d, c = .ow d → G'.H τ = v) : VR0 G' s' w' v (ofCV ks τ c).1 := by
  cases c with
  | sc x =>
    show VP G'.O w' v x
    rcases him with h1 | h1
    · exact vp_plain h1 h
    · exact VP.keep (w := w') (w' := w') h fun g hg => ⟨h1 g hg, rfl⟩
  | ow d => exact ⟨VC.sgl h, fun _ => (hH d rfl).symm⟩
  | fn f cs =>
    have h' : v = .func (.func f) #[] (cs.map fun j => Value.pointer (some ⟨callB B ks j, 0, none⟩)).toArray := h
    show v = .func (.func f) #[] ((cs.map fun i => ks.getD i (.own 0)).map (capV G'.B)).toArray
    rw [h', List.map_map, hB]
    rfl
  | pt j =>
    have h' : v = .pointer (some ⟨callB B ks j, 0, none⟩) := h
    show v = .pointer (some ⟨G'.B (ks.getD j (.own 0)), 0, none⟩)
    rw [h', hB]
    rfl
  | nf => exact h

theorem anyShares_mem {cs : List CV} (h : anyShares cs = false) {j : Nat} {c : CV} (hc : cs[j]? = some c) : c.shares = false := by
  induction cs generalizing j with
  | nil => simp at hc
  | cons x xs ih =>
    simp only [anyShares, Bool.or_eq_false_iff] at h
    cases j with
    | zero => simp at hc; subst hc; exact h.1
    | succ j => exact ih h.2 (by simpa using hc)

theorem resTok_inj {t i i' n : Nat} (ht : t < n) (hn : n ≤ 10000) (h : resTok t i = resTok t i') : i = i' := by unfold resTok at h; omega
theorem boxTok_inj {t i i' : Nat} (h : boxTok t i = boxTok t i') : i = i' := by unfold boxTok at h; omega
theorem resBox_ne {t i j n : Nat} (ht : t < n) (hn : n ≤ 10000) (hi : i < 90) : resTok t i ≠ boxTok t j := by unfold resTok boxTok; omega

/-- Which tokens a call makes, and what they hold. -/
def CNew (t : Nat) (rs bx' : List CV) (rv : List Value) (ub : Nat → Value) (σ : Nat) (v : Value) : Prop :=
  (∃ i d, rs[i]? = some (.ow d) ∧ σ = resTok t i ∧ rv[i]? = some v) ∨ ∃ j d, bx'[j]? = some (.ow d) ∧ σ = boxTok t j ∧ v = ub j

open Classical in
noncomputable def callH (H : Nat → Value) (N : Nat → Value → Prop) : Nat → Value := fun σ => if h : ∃ v, N σ v then h.choose else H σ

theorem callH_new {H : Nat → Value} {N : Nat → Value → Prop} {σ : Nat} {v : Value} (h : N σ v) (hu : ∀ v', N σ v' → v' = v) : callH H N σ = v := by
  unfold callH
  have hx : ∃ v, N σ v := ⟨v, h⟩
  rw [dif_pos hx]
  exact hu _ hx.choose_spec
theorem callH_old {H : Nat → Value} {N : Nat → Value → Prop} {σ : Nat} (h : ∀ v, ¬ N σ v) : callH H N σ = H σ := by
  unfold callH
  rw [dif_neg (fun ⟨v, hv⟩ => h v hv)]

section
variable {P : Program} {K : Kf} {E : El} {n : Nat} {G : Gh} {s : St} {a : Act} {w : World} {CR : CRel} {o : Oper} {u : St}

theorem resVal_vr {G' : Gh} {s' : St} {w' : World} : ∀ (rv : List Value) (xs : List VV), rv.length = xs.length → (∀ x ∈ xs, ∀ ys, x ≠ .tp ys) → (∀ (j : Nat) v x, rv[j]? = some v → xs[j]? = some x → VR0 G' s' w' v x) → VR G' s' w' (resVal rv) (resV xs)
  | [], [], _, _, _ => rfl
  | [v], [x], _, ht, h => vr_of0 (h 0 v x rfl rfl) (ht x (by simp))
  | v :: v' :: vs, x :: x' :: xs, hl, _, h => ⟨v :: v' :: vs, rfl, hl, fun j y z h1 h2 => h j y z h1 h2⟩
  | [], _ :: _, h, _, _ => by simp at h
  | [_], _ :: _ :: _, h, _, _ => by simp at h
  | _ :: _, [], h, _, _ => by simp at h
  | _ :: _ :: _, [_], h, _, _ => by simp at h

theorem callOp_ok (hCO : ContractsOK P E CR) (hn : n ≤ 10000) (R : Rel E n G s a w) {t : Nat} {f : FuncId} {mvf : Nat → Bool} {vs : List VV} {vals : List Value} (ht : t < n) (hl : vals.length = vs.length)
    (hv : ∀ (j : Nat) val v, vals[j]? = some val → vs[j]? = some v → VR G s w val v) (hdst : o.dst = some t)
    (hrun : ∀ fn, P.funcs[f]? = some fn → fn.body.isNone = false → (fn.name == "runtime.NumGoroutine") = false → (execOp a.eval o).run P w = .ok (.enter f vals.toArray) w)
    (hu : Runs CR s (callOp mvf t f vs) u) (hfr : Fresh s u) : OpOK E n P G s a w o u := by
  obtain ⟨ks, bs, as, bx, ga, gb, rs, bx', fz, k1, k2, k3, k4, k5, as1, as2, ga1, ga2, bx1, bx2, gone2, hdis, hdis2, hcr, fz1, fz2, eu⟩ := runs_callOp R hl hv hu
  generalize hgone : ga ++ gb = gone at hdis eu
  obtain ⟨hspec, ⟨fn, hfn, hbody, hname⟩, hrl⟩ := hCO f as bx rs bx' hcr
  intro next Q hnext
  unfold Oper.wp
  rw [hrun fn hfn hbody hname, Oper.upon_enter]
  -- which tokens go with which box
  have hmvx : ∃ mv : Nat → Option Nat, (∀ τ, τ ∉ gone → mv τ = none) ∧ (∀ (j τ : Nat), bs[j]? = some (VV.rf τ) → τ ∈ gb → mv τ = some (boxN j)) ∧
      (∀ (j : Nat) v τ, vs[j]? = some v → v.tokOf = some τ → mvf j = true → mv τ = some (argN j)) := by
    classical
    refine ⟨fun τ => if h : τ ∈ ga then some (argN (ga2 τ h).2.choose) else if h : τ ∈ gb then some (boxN (gone2 τ h).2.choose) else none, fun τ h => ?_, fun j τ hj hg => ?_, fun j v τ hj hv hm => ?_⟩
    · rw [← hgone, List.mem_append, not_or] at h
      simp [h.1, h.2]
    · have hna : τ ∉ ga := fun h => hdis2 τ h hg
      have hsp := (gone2 τ hg).2.choose_spec
      simp only [hna, dif_neg, not_false_eq_true, hg, dif_pos]
      rw [hsp.2 j hj]
    · have hg := ga1 j v hj hm τ hv
      have hsp := (ga2 τ hg).2.choose_spec
      obtain ⟨v', s1, s2, s3, s4⟩ := hsp
      simp only [hg, dif_pos]
      rw [s4 j v hj hv hm]
  obtain ⟨mv, hmv0, hmv1, hmv2⟩ := hmvx
  have hlent : ∀ τ ∈ toksL (lentL mvf 0 vs), mv τ = none := fun τ hτ => hmv0 τ (hdis τ hτ)
  -- the sharing
  generalize hsh : (anyShares rs || anyShares bx') = sh at fz1 fz2
  let Oc : Lbl := callO G.O (toksL (lentL mvf 0 vs)) ks mv
  let O0 : Lbl := shrO sh G.O (toksL (lentL mvf 0 vs))
  have hOcfresh : ∀ g, w.heap.size ≤ g → Oc g = .no := fun g hg => callO_no (R.fresh g hg)
  have hpre : ∀ (j : Nat) v c, vals[j]? = some v → as[j]? = some c → CVR E Oc w (callB G.B ks) (argN j) v c := by
    intro j val c h1 h2
    have hj : j < vs.length := by rw [← hl]; exact (List.getElem?_eq_some_iff.1 h1).1
    have h3 : vs[j]? = some vs[j] := List.getElem?_eq_getElem hj
    have hm : vs[j] ∈ vs := List.getElem_mem hj
    have hok := as2 j val _ c h1 h3 h2
    refine arg_pre R (hv j val _ h1 h3) hok (fun hb τ hτ => ?_) hlent (fun d hd τ hτ => ?_) (k3 _ hm)
    · obtain ⟨i, hi, e⟩ := List.mem_iff_getElem.1 (lentL_mem (mv := mvf) vs 0 j _ h3 (by rw [Nat.zero_add]; exact hb))
      exact toksL_mem (by rw [List.getElem?_eq_getElem hi, e]) hτ
    · subst hd
      have hg : τ ∈ ga := by
        rcases hok with ⟨_, _, _, e⟩ | ⟨_, _, e⟩ | ⟨_, e⟩ | ⟨_, e, _⟩ | ⟨σ, iv, d, e1, e2, e3, e4⟩ | ⟨σ, m, iv, d, e1, e2, e3, e4⟩
        · cases e
        · cases e
        · cases e
        · cases e
        · rw [e1] at hτ; injection hτ with hτ; rw [← hτ]; exact e4
        · rw [e1] at hτ; injection hτ with hτ; rw [← hτ]; exact e4
      refine hmv2 j _ τ h3 hτ ?_
      cases hb : mvf j with
      | true => rfl
      | false =>
        exfalso
        obtain ⟨i, hi, e⟩ := List.mem_iff_getElem.1 (lentL_mem (mv := mvf) vs 0 j _ h3 (by rw [Nat.zero_add]; exact hb))
        refine hdis τ (toksL_mem (by rw [List.getElem?_eq_getElem hi, e]) (tokOf_mem hτ)) ?_
        rw [← hgone]; exact List.mem_append_left _ hg
  have hbx : BoxesR E Oc w (callB G.B ks) bx := boxes_pre R k2 k1 bx1 k5 bx2 hmv1
  intro cs
  obtain ⟨e, w', fr, hpost, hsteps⟩ := hspec Oc (callB G.B ks) vals w hOcfresh (by rw [hl, as1]) hpre hbx cs
  refine ⟨e, w', fr, ?_, hsteps⟩
  obtain ⟨O', rv, rfl, hf, hfresh', rl, hres, bl', hbx'⟩ := hpost
  -- what holds behind the call
  let ρ : Lab → Lab := renC t ks rs.length
  let O2 : Lbl := backO O0 Oc O' w.heap.size ρ
  have hlt : ∀ g, G.O g ≠ .no → g < w.heap.size := by
    intro g hg
    rcases Nat.lt_or_ge g w.heap.size with h | h
    · exact h
    · exact absurd (R.fresh g h) hg
  have hbl : bx'.length = ks.length := by rw [bl', bx1, k1]
  have hub0 : ∀ j, ∃ u : Value, j < bx'.length → ∃ e, w'.heap[callB G.B ks j]? = some (.cells u.cells e (0, 0)) ∧ ∀ c, bx'[j]? = some c → CVR E O' w' (callB G.B ks) (boxN j) u c := by
    intro j
    by_cases hj : j < bx'.length
    · obtain ⟨u, e, h1, h2⟩ := hbx'.val j _ (List.getElem?_eq_getElem hj)
      exact ⟨u, fun _ => ⟨e, h1, fun c hc => by rw [List.getElem?_eq_getElem hj] at hc; injection hc with hc; subst hc; exact h2⟩⟩
    · exact ⟨undef, fun h => absurd h hj⟩
  obtain ⟨ub, hub⟩ := Classical.axiomOfChoice hub0
  let N := CNew t rs bx' rv ub
  let G' : Gh := { O := O2, H := callH G.H N, B := G.B }
  -- unchanged blocks
  have hOcow : ∀ g τ p, G.O g = .ow τ p → mv τ = none → Oc g = .im ∨ Oc g = .no := by
    intro g τ p hg hm
    by_cases hτ : τ ∈ toksL (lentL mvf 0 vs)
    · exact .inl (callO_lent hg hm hτ)
    · refine .inr ?_
      show callO G.O (toksL (lentL mvf 0 vs)) ks mv g = .no
      unfold callO; rw [hg]; simp only [hm]; rw [if_neg hτ]
  have hkeep : ∀ g, g < w.heap.size → (Oc g = .im ∨ Oc g = .no) → O2 g = O0 g ∧ w'.heap[g]? = w.heap[g]? := by
    intro g hg h
    refine ⟨back_old hg h, ?_⟩
    rcases h with h | h
    · exact (hf.im g h).2
    · exact (hf.no g hg h).2
  have him : ImF G w G' w' := by
    intro g hg
    obtain ⟨h1, h2⟩ := hkeep g (hlt g (by rw [hg]; simp)) (.inl (callO_im hg))
    exact ⟨h1.trans (shrO_other hg (by simp)), h2⟩
  have how : ∀ g τ p, G.O g = .ow τ p → τ ∉ gone → w'.heap[g]? = w.heap[g]? ∧ O2 g = O0 g := by
    intro g τ p hg hτ
    obtain ⟨h1, h2⟩ := hkeep g (hlt g (by rw [hg]; simp)) (hOcow g τ p hg (hmv0 τ hτ))
    exact ⟨h2, h1⟩
  have hfrO : Fr G.O w G'.O w' := by
    refine ⟨hf.os, hf.tape, hf.output, hf.size, him, fun g hg h => ?_⟩
    obtain ⟨h1, h2⟩ := hkeep g hg (.inr (callO_no h))
    exact ⟨h1.trans (shrO_other h (by simp)), h2⟩
  -- what is shared is not written any more
  have himO' : sh = true → ∀ g, O' g = .im → O2 g = .im := by
    intro hs g hg
    by_cases hc : g < w.heap.size ∧ (Oc g = .im ∨ Oc g = .no)
    · obtain ⟨hg0, hc⟩ := hc
      rw [show O2 g = O0 g from back_old hg0 hc]
      rcases hc with hc | hc
      · have hc' : callO G.O (toksL (lentL mvf 0 vs)) ks mv g = .im := hc
        unfold callO at hc'
        show shrO sh G.O (toksL (lentL mvf 0 vs)) g = .im
        unfold shrO
        cases hO : G.O g with
        | im => rfl
        | no => rw [hO] at hc'; cases hc'
        | bx b => rw [hO] at hc'; simp only at hc'; split at hc' <;> cases hc'
        | ow τ p =>
          rw [hO] at hc'
          simp only at hc' ⊢
          cases hm : mv τ with
          | some j => rw [hm] at hc'; cases hc'
          | none =>
            rw [hm] at hc'
            simp only at hc'
            by_cases hτ : τ ∈ toksL (lentL mvf 0 vs)
            · rw [if_pos ⟨hs, hτ⟩]
            · rw [if_neg hτ] at hc'; cases hc'
      · have := (hf.no g hg0 hc).1
        rw [hg] at this; cases this
    · show backO O0 Oc O' w.heap.size ρ g = .im
      rw [back_new hc, hg]
      rfl
  have hshR : ∀ (j : Nat) c, rs[j]? = some c → c.shares = false ∨ ∀ g, O' g = .im → O2 g = .im := by
    intro j c hc
    cases hb : sh with
    | true => exact .inr (himO' hb)
    | false =>
      rw [hb, Bool.or_eq_false_iff] at hsh
      exact .inl (anyShares_mem hsh.1 hc)
  have hshB : ∀ (j : Nat) c, bx'[j]? = some c → c.shares = false ∨ ∀ g, O' g = .im → O2 g = .im := by
    intro j c hc
    cases hb : sh with
    | true => exact .inr (himO' hb)
    | false =>
      rw [hb, Bool.or_eq_false_iff] at hsh
      exact .inl (anyShares_mem hsh.2 hc)
  have hcsh : ∀ d, ((CV.ow d).shares = false ∨ ∀ g, O' g = .im → O2 g = .im) → (∀ xss, d ≠ .rows false xss) ∨ ∀ g, O' g = .im → O2 g = .im := by
    intro d h
    rcases h with h | h
    · exact .inl fun xss e => by subst e; simp [CV.shares] at h
    · exact .inr h
  have hks20 : ks.length ≤ 20 := by omega
  -- the new tokens
  have hNu : ∀ σ v v', N σ v → N σ v' → v' = v := by
    rintro σ v v' (⟨i, d, h1, h2, h3⟩ | ⟨j, d, h1, h2, h3⟩) (⟨i', d', g1, g2, g3⟩ | ⟨j', d', g1, g2, g3⟩)
    · have := resTok_inj ht hn (h2.symm.trans g2)
      subst this
      rw [h3] at g3; injection g3 with g3; exact g3.symm
    · exact absurd (h2.symm.trans g2) (resBox_ne ht hn (by have := (List.getElem?_eq_some_iff.1 h1).1; omega))
    · exact absurd (g2.symm.trans h2) (resBox_ne ht hn (by have := (List.getElem?_eq_some_iff.1 g1).1; omega))
    · have := boxTok_inj (h2.symm.trans g2)
      subst this
      rw [h3, g3]
  have hHnew : ∀ σ v, N σ v → G'.H σ = v := fun σ v h => callH_new h fun v' h' => hNu σ v v' h h'
  have hHold : ∀ σ, (∀ v, ¬ N σ v) → G'.H σ = G.H σ := fun σ h => callH_old h
  have hrvx : ∀ (i : Nat) c, rs[i]? = some c → ∃ v, rv[i]? = some v := fun i c h => ⟨_, List.getElem?_eq_getElem (by rw [rl]; exact (List.getElem?_eq_some_iff.1 h).1)⟩
  have memu : ∀ l x, (l, x) ∈ u → (l = .slot t ∧ x = .v (resV (resSt ks t 0 rs).1)) ∨ (∃ j d, rs[j]? = some (.ow d) ∧ l = .tok (resTok t j) ∧ x = .t 0 d) ∨
      (∃ j b c, ks[j]? = some b ∧ bx'[j]? = some c ∧ ((l = .box b ∧ x = .v (ofCV ks (boxTok t j) c).1) ∨ ∃ d, c = .ow d ∧ l = .tok (boxTok t j) ∧ x = .t 0 d)) ∨
      (∃ τ ∈ gone, l = .tok τ ∧ x = .v .un) ∨ (l, x) ∈ fz := by
    intro l x h
    rw [eu] at h
    simp only [List.mem_cons, List.mem_append] at h
    rcases h with h | h | h | h | h
    · injection h with h1 h2; exact .inl ⟨h1, h2⟩
    · obtain ⟨j, d, h1, h2, h3⟩ := resSt_mem rs 0 h
      rw [Nat.zero_add] at h2
      exact .inr (.inl ⟨j, d, h1, h2, h3⟩)
    · obtain ⟨j, b, c, h1, h2, h3⟩ := boxSt_mem ks bx' 0 h
      rw [Nat.zero_add] at h3
      exact .inr (.inr (.inl ⟨j, b, c, h1, h2, h3⟩))
    · exact .inr (.inr (.inr (.inl ((deadL_mem gone).1 h))))
    · exact .inr (.inr (.inr (.inr h)))
  have memt : ∀ σ iv c, (Loc.tok σ, SV.t iv c) ∈ u → ∃ v, N σ v ∧ VC E O2 w' σ v c := by
    intro σ iv c h
    rcases memu _ _ h with ⟨h1, _⟩ | ⟨j, d, h1, h2, h3⟩ | ⟨j, b, c', h1, h2, h3⟩ | ⟨τ, _, _, h3⟩ | h
    · cases h1
    · injection h2 with h2; injection h3 with h3 h4; subst h2; subst h4
      obtain ⟨v, hv'⟩ := hrvx j _ h1
      exact ⟨v, .inl ⟨j, c, h1, rfl, hv'⟩, own_back hf (hres j v _ hv' h1) (fun p => renC_res (List.getElem?_eq_some_iff.1 h1).1) (hcsh c (hshR j _ h1))⟩
    · rcases h3 with ⟨h3, _⟩ | ⟨d, h3, h4, h5⟩
      · cases h3
      · injection h4 with h4; injection h5 with h5 h6; subst h4; subst h6; subst h3
        have hj : j < bx'.length := (List.getElem?_eq_some_iff.1 h2).1
        obtain ⟨e, q1, q2⟩ := hub j hj
        exact ⟨ub j, .inr ⟨j, c, h2, rfl, rfl⟩, own_back hf (q2 _ h2) (fun p => renC_box (by omega) (by omega)) (hcsh c (hshB j _ h2))⟩
    · cases h3
    · obtain ⟨τ, iv', c', _, _, _, _, h4, _⟩ := fz1 _ _ h
      cases h4
  have memf : ∀ σ x, (Loc.tok σ, SV.f x) ∈ u → ∃ iv c, s.get (.tok σ) = .t iv c ∧ (∀ k xss, c ≠ .hole k xss) ∧ x = c.pv ∧ sh = true ∧ σ ∈ toksL (lentL mvf 0 vs) := by
    intro σ x h
    rcases memu _ _ h with ⟨h1, _⟩ | ⟨j, d, h1, h2, h3⟩ | ⟨j, b, c', h1, h2, h3⟩ | ⟨τ, _, _, h3⟩ | h
    · cases h1
    · cases h3
    · rcases h3 with ⟨h3, _⟩ | ⟨d, h3, h4, h5⟩
      · cases h3
      · cases h5
    · cases h3
    · obtain ⟨τ, iv', c', h0, h1, h2, h3, h4, h5⟩ := fz1 _ _ h
      injection h1 with h1; injection h4 with h4
      subst h1; subst h4
      exact ⟨iv', c', h2, h3, rfl, h5, h0⟩
  have hasNew : ∀ σ v, N σ v → ∃ c, (Loc.tok σ, SV.t 0 c) ∈ u := by
    rintro σ v (⟨i, d, h1, h2, h3⟩ | ⟨j, d, h1, h2, h3⟩)
    · refine ⟨d, ?_⟩
      rw [eu, h2]
      have := resSt_has (ks := ks) (t := t) rs 0 i h1
      rw [Nat.zero_add] at this
      simp only [List.mem_cons, List.mem_append]
      exact .inr (.inl this)
    · refine ⟨d, ?_⟩
      rw [eu, h2]
      have hj : j < bx'.length := (List.getElem?_eq_some_iff.1 h1).1
      have := (boxSt_has (ks := ks) (t := t) ks bx' 0 j (List.getElem?_eq_getElem (by omega)) h1).2 d rfl
      rw [Nat.zero_add] at this
      simp only [List.mem_cons, List.mem_append]
      exact .inr (.inr (.inl this))
  have hNref : ∀ σ v, N σ v → NoRef σ s := by
    intro σ v h
    obtain ⟨c, hc⟩ := hasNew σ v h
    refine hfr σ 0 c hc ?_
    rcases h with ⟨i, d, h1, h2, h3⟩ | ⟨j, d, h1, h2, h3⟩
    · have := (List.getElem?_eq_some_iff.1 h1).1
      rw [h2]; unfold resTok; omega
    · have := (List.getElem?_eq_some_iff.1 h1).1
      rw [h2]; unfold boxTok; omega
  have hgone : ∀ τ ∈ gone, Loc.tok τ ∈ locsOf u := by
    intro τ hτ
    refine locsOf_mem (x := .v .un) ?_
    rw [eu]
    simp only [List.mem_cons, List.mem_append]
    exact .inr (.inr (.inr (.inl ((deadL_mem gone).2 ⟨τ, hτ, rfl, rfl⟩))))
  have hlentF : sh = true → ∀ τ ∈ toksL (lentL mvf 0 vs), ∀ iv c, s.get (.tok τ) = .t iv c → Loc.tok τ ∈ locsOf u := by
    intro hs τ hτ iv c hc
    have h := get_mem (fz2 hs τ hτ iv c hc) []
    refine locsOf_mem (x := St.get (fz ++ []) (Loc.tok τ)) ?_
    rw [eu]
    simp only [List.mem_cons, List.mem_append]
    exact .inr (.inr (.inr (.inr h)))
  have hts : ∀ σ, (∀ v, ¬ N σ v) → TokStep G s w G' (u ++ s) w' σ := by
    intro σ hσ
    by_cases hm : Loc.tok σ ∈ locsOf u
    · have hm' := get_mem hm s
      cases hx : St.get (u ++ s) (.tok σ) with
      | v y => exact TokStep.dead hx
      | t iv c => rw [hx] at hm'; obtain ⟨v, h, _⟩ := memt σ iv c hm'; exact absurd h (hσ v)
      | f x =>
        rw [hx] at hm'
        obtain ⟨iv, c, h1, _⟩ := memf σ x hm'
        refine ⟨fun _ => ⟨by rw [h1]; rfl, hHold σ hσ⟩, fun iv' c' h' => ?_⟩
        rw [hx] at h'; cases h'
    · refine TokStep.same (get_out hm s) (hHold σ hσ) fun iv c hc k m hk => ?_
      have hng : σ ∉ gone := fun h => hm (hgone σ h)
      exact (R.toks σ iv c hc).outer (fun g hg => (how g σ none hg hng).1) k m hk
  have hnoN : ∀ l v, s.get l = .v v → ∀ σ ∈ v.toks, ∀ x, ¬ N σ x := fun l v hv' σ hσ x hx => hNref σ x hx l v hv' hσ
  let pre : St := (.slot t, .v (resV (resSt ks t 0 rs).1)) :: ((resSt ks t 0 rs).2 ++ boxSt ks t 0 ks bx')
  have eup : u = pre ++ (deadL gone ++ fz) := by rw [eu]; simp [pre]
  have notF : ∀ l x, (l, x) ∈ pre → ∀ y, x ≠ .f y := by
    intro l x h y e
    subst e
    rcases List.mem_cons.1 h with h | h
    · injection h with _ h; cases h
    · rcases List.mem_append.1 h with h | h
      · obtain ⟨j, d, h1, h2, h3⟩ := resSt_mem rs 0 h; cases h3
      · obtain ⟨j, b, c, h1, h2, ⟨_, h3⟩ | ⟨d, _, _, h3⟩⟩ := boxSt_mem ks bx' 0 h <;> cases h3
  have hasPre : ∀ σ v, N σ v → Loc.tok σ ∈ locsOf pre := by
    rintro σ v (⟨i, d, h1, h2, h3⟩ | ⟨j, d, h1, h2, h3⟩)
    · have := resSt_has (ks := ks) (t := t) rs 0 i h1
      rw [Nat.zero_add, ← h2] at this
      exact locsOf_mem (List.mem_cons_of_mem _ (List.mem_append_left _ this))
    · have hj : j < bx'.length := (List.getElem?_eq_some_iff.1 h1).1
      have := (boxSt_has (ks := ks) (t := t) ks bx' 0 j (List.getElem?_eq_getElem (by omega)) h1).2 d rfl
      rw [Nat.zero_add, ← h2] at this
      exact locsOf_mem (List.mem_cons_of_mem _ (List.mem_append_right _ this))
  have hsz : t < a.tmps.size := by rw [R.size]; exact ht
  show next (a.put o.dst (resVal rv)) w'
  rw [hdst]
  refine hnext G' _ w' (R.step (by rw [size_put]; exact R.size) (by rw [defers_put]; exact R.defers) him (fun t' v hv' => ?_) (fun b v hv' => ?_) (fun τ iv c hc => ?_) (fun τ x hx => ?_) (fun g hg => ?_)) hfrO
  · rw [getD_put a t _ t' hsz]
    by_cases e : t = t'
    · subst e
      rw [if_pos rfl]
      rw [eu, List.cons_append, get_cons, if_pos rfl] at hv'
      injection hv' with hv'
      subst hv'
      refine .inr (resVal_vr rv _ (by rw [resSt_len, rl]) (fun x hx ys => ?_) fun j v x h1 h2 => ?_)
      · obtain ⟨j, hj, rfl⟩ := List.mem_iff_getElem.1 hx
        have hj' : j < rs.length := by rw [← resSt_len (ks := ks) (t := t) rs 0]; exact hj
        have := resSt_at (ks := ks) (t := t) rs 0 j (List.getElem?_eq_getElem hj')
        rw [List.getElem?_eq_getElem hj] at this
        injection this with this
        rw [this]
        exact ofCV_ntp ks _ _ ys
      · have hj' : j < rs.length := by rw [← rl]; exact (List.getElem?_eq_some_iff.1 h1).1
        have hc := List.getElem?_eq_getElem hj'
        have := resSt_at (ks := ks) (t := t) rs 0 j hc
        rw [this, Nat.zero_add] at h2
        injection h2 with h2
        subst h2
        exact cvr_vr (O2 := O2) (hres j v _ h1 hc) (hshR j _ hc) rfl fun d hd => hHnew _ _ (.inl ⟨j, d, by rw [hc, hd], rfl, h1⟩)
    · rw [if_neg e]
      have hm : Loc.slot t' ∉ locsOf u := by
        intro hm
        rcases memu _ _ (get_mem hm s) with ⟨h1, _⟩ | ⟨j, d, h1, h2, h3⟩ | ⟨j, b, c', h1, h2, h3⟩ | ⟨τ, _, h3, _⟩ | h
        · injection h1 with h1; exact e h1.symm
        · cases h2
        · rcases h3 with ⟨h3, _⟩ | ⟨d, h3, h4, h5⟩
          · cases h3
          · cases h4
        · cases h3
        · obtain ⟨τ, iv', c', _, h1, _⟩ := fz1 _ _ h
          cases h1
      rw [get_out hm] at hv'
      exact .inl ⟨hv', rfl, fun σ hσ => hts σ (hnoN _ _ hv' σ hσ), fun _ _ => rfl⟩
  · by_cases hb : b ∈ ks
    · obtain ⟨j, _, hj⟩ := keyIdx_spec ks 0 hb
      have hjl : j < bx'.length := by rw [hbl]; exact (List.getElem?_eq_some_iff.1 hj).1
      have hm : Loc.box b ∈ locsOf u := by
        refine locsOf_mem (x := .v (ofCV ks (boxTok t j) bx'[j]).1) ?_
        rw [eu]
        have := (boxSt_has (ks := ks) (t := t) ks bx' 0 j hj (List.getElem?_eq_getElem hjl)).1
        rw [Nat.zero_add] at this
        simp only [List.mem_cons, List.mem_append]
        exact .inr (.inr (.inl this))
      have hm' := get_mem hm s
      rw [hv'] at hm'
      refine .inr (.inr ?_)
      rcases memu _ _ hm' with ⟨h1, _⟩ | ⟨j, d, h1, h2, h3⟩ | ⟨i, b', c, h1, h2, h3⟩ | ⟨τ, _, h3, _⟩ | h
      · cases h1
      · cases h2
      · rcases h3 with ⟨h3, h4⟩ | ⟨d, h3, h4, h5⟩
        · injection h3 with h3; injection h4 with h4; subst h3; subst h4
          have hil : i < bx'.length := (List.getElem?_eq_some_iff.1 h2).1
          obtain ⟨e, q1, q2⟩ := hub i hil
          have hB : callB G.B ks i = G.B b := by unfold callB; rw [List.getD_eq_getElem?_getD, h1]; rfl
          have hlab := hbx'.lab i hil
          rw [hB] at hlab q1
          refine ⟨?_, ub i, e, q1, vr_of0 (cvr_vr (O2 := O2) (q2 c h2) (hshB i c h2) rfl fun d hd => hHnew _ _ (.inr ⟨i, d, by rw [h2, hd], rfl, rfl⟩)) (ofCV_ntp ks _ c)⟩
          show backO O0 Oc O' w.heap.size ρ (G.B b) = .bx b
          rw [back_ow hf hlab (by simp) (by simp)]
          exact renC_bx h1
        · cases h4
      · cases h3
      · obtain ⟨τ, iv', c', _, h1, _⟩ := fz1 _ _ h
        cases h1
    · have hm : Loc.box b ∉ locsOf u := by
        intro hm
        rcases memu _ _ (get_mem hm s) with ⟨h1, _⟩ | ⟨j, d, h1, h2, h3⟩ | ⟨j, b', c', h1, h2, h3⟩ | ⟨τ, _, h3, _⟩ | h
        · cases h1
        · cases h2
        · rcases h3 with ⟨h3, _⟩ | ⟨d, h3, h4, h5⟩
          · injection h3 with h3; subst h3; exact hb (List.mem_of_getElem? h1)
          · cases h4
        · cases h3
        · obtain ⟨τ, iv', c', _, h1, _⟩ := fz1 _ _ h
          cases h1
      rw [get_out hm] at hv'
      refine .inr (.inl ⟨hv', rfl, fun h => ?_, fun σ hσ => hts σ (hnoN _ _ hv' σ hσ), fun _ _ => rfl⟩)
      have hc : Oc (G.B b) = .no := by
        show callO G.O (toksL (lentL mvf 0 vs)) ks mv (G.B b) = .no
        unfold callO; rw [h]; simp only; rw [if_neg hb]
      obtain ⟨h1, h2⟩ := hkeep _ (hlt _ (by rw [h]; simp)) (.inr hc)
      exact ⟨h1.trans (shrO_other h (by simp)), h2⟩
  · by_cases hm : Loc.tok τ ∈ locsOf u
    · have hm' := get_mem hm s
      rw [hc] at hm'
      obtain ⟨v, h1, h2⟩ := memt τ iv c hm'
      refine .inr ?_
      rw [hHnew τ v h1]
      exact h2
    · have hng : τ ∉ gone := fun h => hm (hgone τ h)
      rw [get_out hm] at hc
      have hold : ∀ v, ¬ N τ v := fun v hN => by
        obtain ⟨d, hd⟩ := hasNew τ v hN
        exact hm (locsOf_mem hd)
      refine .inl ⟨⟨iv, hc⟩, hHold τ hold, fun g p hg hl' => ?_⟩
      obtain ⟨h1, h2⟩ := how g τ p hg hng
      refine ⟨?_, h1⟩
      show O2 g = _
      rw [h2]
      show shrO sh G.O (toksL (lentL mvf 0 vs)) g = _
      unfold shrO
      rw [hg]
      simp only
      rw [if_neg]
      rintro ⟨hs, hτ⟩
      exact hm (hlentF hs τ hτ iv c hc)
  · by_cases hm : Loc.tok τ ∈ locsOf u
    · have hm' := get_mem hm s
      rw [hx] at hm'
      obtain ⟨iv, c, h1, h2, rfl, hs, hτl⟩ := memf τ x hm'
      have hold : ∀ v, ¬ N τ v := fun v hN => by
        have hmp : Loc.tok τ ∈ locsOf pre := hasPre τ v hN
        have hmm := get_mem hmp ((deadL gone ++ fz) ++ s)
        rw [← List.append_assoc, ← eup, hx] at hmm
        exact notF _ _ hmm _ rfl
      refine .inr ?_
      rw [hHold τ hold]
      have h0 : VP O0 w (G.H τ) c.pv := by
        refine (R.toks τ iv c h1).lent h2 (fun g hg => shrO_other hg (by simp)) fun g p hg => ?_
        show shrO sh G.O (toksL (lentL mvf 0 vs)) g = _
        unfold shrO
        rw [hg]
        simp only
        rw [if_pos ⟨hs, hτl⟩]
      refine VP.keep h0 fun g hg => ?_
      have hg' : shrO sh G.O (toksL (lentL mvf 0 vs)) g = .im := hg
      cases hO : G.O g with
      | im => exact him g hO
      | no => rw [shrO_other hO (by simp)] at hg'; cases hg'
      | bx b => rw [shrO_other hO (by simp)] at hg'; cases hg'
      | ow σ p =>
        unfold shrO at hg'
        rw [hO] at hg'
        simp only at hg'
        by_cases hc : sh = true ∧ σ ∈ toksL (lentL mvf 0 vs)
        · obtain ⟨q1, q2⟩ := how g σ p hO (hdis σ hc.2)
          exact ⟨q2.trans hg, q1⟩
        · rw [if_neg hc] at hg'; cases hg'
    · rw [get_out hm] at hx
      have hold : ∀ v, ¬ N τ v := fun v hN => by
        obtain ⟨d, hd⟩ := hasNew τ v hN
        exact hm (locsOf_mem hd)
      exact .inl ⟨hx, hHold τ hold⟩
  · show backO O0 Oc O' w.heap.size ρ g = .no
    rw [back_new (fun h => absurd h.1 (by have := hf.size; omega)), hfresh' g hg]
    rfl
end
end Go.Tm
