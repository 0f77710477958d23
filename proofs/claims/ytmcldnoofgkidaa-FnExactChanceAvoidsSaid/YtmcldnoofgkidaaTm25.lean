/- The T-machine: calls: the premises of the callee's contract. -/
import Derived.Test.YtmcldnoofgkidaaTm24
set_option linter.unusedVariables false
set_option linter.unusedSimpArgs false
namespace Go.Tm
open Go.RowKit

/-- The labels that the callee sees. -/
def callO (O : Lbl) (lent : List Nat) (ks : List Key) (mv : Nat → Option Nat) : Lbl := fun g => match O g with
  | .im => .im
  | .no => .no
  | .ow τ p => match mv τ with
    | some σ => .ow σ p
    | none => if τ ∈ lent then .im else .no
  | .bx b => if b ∈ ks then .bx (.par (keyIdx b ks 0)) else .no

def callB (B : Key → Nat) (ks : List Key) : Nat → Nat := fun j => B (ks.getD j (.own 0))

theorem callB_idx {B : Key → Nat} {ks : List Key} {b : Key} (h : b ∈ ks) : callB B ks (keyIdx b ks 0) = B b := by
  obtain ⟨j, h1, h2⟩ := keyIdx_spec ks 0 h
  unfold callB
  rw [h1, Nat.zero_add, List.getD_eq_getElem?_getD, h2]
  rfl

theorem nodup_at {b : Key} : ∀ {ks : List Key}, ks.Nodup → ∀ {i j : Nat}, ks[i]? = some b → ks[j]? = some b → i = j
  | [], _, i, j, h, _ => by simp at h
  | k :: ks, hd, i, j, h1, h2 => by
    obtain ⟨d1, d2⟩ := List.nodup_cons.1 hd
    cases i with
    | zero => cases j with
      | zero => rfl
      | succ j =>
        simp at h1 h2
        exact absurd (List.mem_of_getElem? (h1 ▸ h2)) d1
    | succ i => cases j with
      | zero =>
        simp at h1 h2
        exact absurd (List.mem_of_getElem? (h2 ▸ h1)) d1
      | succ j => rw [nodup_at d2 (i := i) (j := j) (by simpa using h1) (by simpa using h2)]

theorem keyIdx_at {ks : List Key} (hd : ks.Nodup) {j : Nat} {b : Key} (h : ks[j]? = some b) : keyIdx b ks 0 = j := by
  obtain ⟨i, h1, h2⟩ := keyIdx_spec ks 0 (List.mem_of_getElem? h)
  rw [h1, Nat.zero_add]
  exact nodup_at hd h2 h

section
variable {P : Program} {K : Kf} {E : El} {n : Nat} {G : Gh} {s : St} {a : Act} {w : World} {CR : CRel} {o : Oper} {u : St}
variable {lent : List Nat} {ks : List Key} {mv : Nat → Option Nat}

theorem callO_im {O : Lbl} {g : Nat} (h : O g = .im) : callO O lent ks mv g = .im := by unfold callO; rw [h]
theorem callO_no {O : Lbl} {g : Nat} (h : O g = .no) : callO O lent ks mv g = .no := by unfold callO; rw [h]
theorem callO_mv {O : Lbl} {g τ j : Nat} {p : Option Nat} (h : O g = .ow τ p) (hm : mv τ = some j) : callO O lent ks mv g = .ow j p := by unfold callO; rw [h]; simp only [hm]
theorem callO_lent {O : Lbl} {g τ : Nat} {p : Option Nat} (h : O g = .ow τ p) (hm : mv τ = none) (hl : τ ∈ lent) : callO O lent ks mv g = .im := by unfold callO; rw [h]; simp only [hm]; rw [if_pos hl]
theorem callO_bx {O : Lbl} {g : Nat} {b : Key} (h : O g = .bx b) (hb : b ∈ ks) : callO O lent ks mv g = .bx (.par (keyIdx b ks 0)) := by unfold callO; rw [h]; simp only; rw [if_pos hb]

theorem caps_eq {cs : List Key} (h : ∀ b ∈ cs, b ∈ ks) : (cs.map (capV G.B)) = (cs.map fun b => keyIdx b ks 0).map fun j => Value.pointer (some ⟨callB G.B ks j, 0, none⟩) := by
  rw [List.map_map]
  refine List.map_congr_left fun b hb => ?_
  simp only [Function.comp, capV, callB_idx (h b hb)]

theorem arg_pre (R : Rel E n G s a w) {val : Value} {v : VV} {c : CV} {gone : List Nat} {b : Bool} {j : Nat} (hv : VR G s w val v) (h : ArgOK G s ks w gone b val v c) (hlent : b = false → ∀ τ ∈ v.toks, τ ∈ lent) (hm : ∀ τ ∈ lent, mv τ = none)
    (hmv : ∀ d, c = .ow d → ∀ τ, v.tokOf = some τ → mv τ = some (argN j)) (hk : ∀ b ∈ v.keys, b ∈ ks) :
    CVR E (callO G.O lent ks mv) w (callB G.B ks) (argN j) val c := by
  rcases h with ⟨f, cs, rfl, rfl⟩ | ⟨b, rfl, rfl⟩ | ⟨rfl, rfl⟩ | ⟨x, rfl, hb, hx⟩ | ⟨τ, iv, d, rfl, e1, rfl, e2⟩ | ⟨τ, m, iv, d, rfl, e1, rfl, e2⟩
  · have hv' : val = .func (.func f) #[] (cs.map (capV G.B)).toArray := hv
    show val = _
    rw [hv', caps_eq (G := G) (cs := cs) (ks := ks) hk]
  · have hv' : val = .pointer (some ⟨G.B b, 0, none⟩) := hv
    show val = _
    rw [hv', callB_idx (hk b (by simp [VV.keys]))]
  · exact hv
  · have ht : ∀ τ ∈ v.toks, τ ∈ lent := by
      cases b with
      | true => rw [hb rfl]; simp
      | false => exact hlent rfl
    exact hx _ ⟨fun g hg => callO_im hg, fun τ hτ g p hg => callO_lent hg (hm τ (ht τ hτ)) (ht τ hτ)⟩
  · have e : val = G.H τ := hv.2 (by rw [e1]; rfl)
    show VC E _ w (argN j) val d
    rw [e]
    exact (R.toks τ iv d e1).move (fun g hg => ⟨callO_im hg, rfl⟩) fun g p hg _ => ⟨callO_mv hg (hmv d rfl τ rfl), rfl⟩
  · have e : IsWin (G.H τ) val 0 m := hv.2 (by rw [e1]; rfl)
    show VC E _ w (argN j) val (d.take m)
    exact ((R.toks τ iv d e1).cut e).move (fun g hg => ⟨callO_im hg, rfl⟩) fun g p hg _ => ⟨callO_mv hg (hmv _ rfl τ rfl), rfl⟩

theorem box_pre (R : Rel E n G s a w) {val : Value} {v : VV} {c : CV} {g : List Nat} {j : Nat} (hv : VR G s w val v) (h : BoxOK s ks g v c) (hm : ∀ τ, v = .rf τ → τ ∈ g → mv τ = some (boxN j)) (hk : ∀ b ∈ v.keys, b ∈ ks) :
    CVR E (callO G.O lent ks mv) w (callB G.B ks) (boxN j) val c := by
  have him : ∀ g, G.O g = .im → callO G.O lent ks mv g = .im ∧ w.heap[g]? = w.heap[g]? := fun g hg => ⟨callO_im hg, rfl⟩
  rcases h with ⟨f, cs, rfl, rfl⟩ | ⟨x, rfl, rfl⟩ | ⟨rfl, rfl⟩ | ⟨τ, iv, d, rfl, e1, e2, rfl, e3⟩ | ⟨τ, x, rfl, e1, rfl⟩
  · have hv' : val = .func (.func f) #[] (cs.map (capV G.B)).toArray := hv
    show val = _
    rw [hv', caps_eq (G := G) (cs := cs) (ks := ks) hk]
  · exact VP.keep (x := x) hv him
  · exact hv
  · have e : val = G.H τ := hv.2 (by rw [e1]; rfl)
    show VC E _ w (boxN j) val d
    rw [e]
    exact (R.toks τ iv d e1).move him fun g p hg _ => ⟨callO_mv hg (hm τ rfl e3), rfl⟩
  · have e : val = G.H τ := hv.2 (by rw [e1]; rfl)
    show VP _ w val x
    rw [e]
    exact (R.froz τ x e1).keep him

/-- The boxes as the callee finds them. -/
theorem boxes_pre (R : Rel E n G s a w) {bs : List VV} {bx : List CV} {g : List Nat} (hd : ks.Nodup) (hl : bs.length = ks.length) (hl2 : bx.length = bs.length)
    (hb : ∀ (j : Nat) b v, ks[j]? = some b → bs[j]? = some v → s.get (.box b) = .v v ∧ ∀ x ∈ v.keys, x ∈ ks) (hx : ∀ (j : Nat) v c, bs[j]? = some v → bx[j]? = some c → BoxOK s ks g v c)
    (hm : ∀ (j τ : Nat), bs[j]? = some (VV.rf τ) → τ ∈ g → mv τ = some (boxN j)) : BoxesR E (callO G.O lent ks mv) w (callB G.B ks) bx := by
  have key : ∀ j, j < bx.length → ∃ b v c u e, ks[j]? = some b ∧ bs[j]? = some v ∧ bx[j]? = some c ∧ s.get (.box b) = .v v ∧ G.O (G.B b) = .bx b ∧ w.heap[G.B b]? = some (.cells u.cells e (0, 0)) ∧ VR G s w u v := by
    intro j hj
    have h1 : ks[j]? = some ks[j] := List.getElem?_eq_getElem (by omega)
    have h2 : bs[j]? = some bs[j] := List.getElem?_eq_getElem (by omega)
    have h3 : bx[j]? = some bx[j] := List.getElem?_eq_getElem hj
    obtain ⟨h4, _⟩ := hb j _ _ h1 h2
    rcases R.boxes _ _ h4 with h | ⟨h5, u, e, h6, h7⟩
    · have h8 := hx j _ _ h2 h3
      rw [h] at h8
      rcases h8 with ⟨_, _, e, _⟩ | ⟨_, e, _⟩ | ⟨e, _⟩ | ⟨_, _, _, e, _⟩ | ⟨_, _, e, _⟩ <;> cases e
    · exact ⟨_, _, _, u, e, h1, h2, h3, h4, h5, h6, h7⟩
  have hB : ∀ (j : Nat) b, ks[j]? = some b → callB G.B ks j = G.B b := fun j b h => by
    unfold callB; rw [List.getD_eq_getElem?_getD, h]; rfl
  refine ⟨fun j hj => ?_, fun j c hc => ?_⟩
  · obtain ⟨b, v, c, u, e, h1, h2, h3, h4, h5, h6, h7⟩ := key j hj
    rw [hB j b h1, callO_bx h5 (List.mem_of_getElem? h1), keyIdx_at hd h1]
  · obtain ⟨b, v, c', u, e, h1, h2, h3, h4, h5, h6, h7⟩ := key j (List.getElem?_eq_some_iff.1 hc).1
    rw [hc] at h3
    injection h3 with h3
    subst h3
    exact ⟨u, e, by rw [hB j b h1]; exact h6, box_pre R h7 (hx j v c h2 hc) (fun τ e1 e2 => hm j τ (by rw [h2, e1]) e2) (hb j b v h1 h2).2⟩
end
end Go.Tm
