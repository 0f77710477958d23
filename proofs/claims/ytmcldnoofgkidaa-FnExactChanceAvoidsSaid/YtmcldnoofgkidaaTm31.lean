/- The T-machine: a function's body gives its contract. -/
import Derived.Test.YtmcldnoofgkidaaTm30
set_option linter.unusedVariables false
set_option linter.unusedSimpArgs false
namespace Go.Tm
open Go.RowKit

def CV.idxOk : CV → Bool
  | .fn _ cs => cs.all (Nat.blt · 40)
  | .pt j => Nat.blt j 40
  | _ => true

/-- Loops do as their rounds do. -/
def LoopsBy (X : Env) : Code → Prop
  | .seq x y => LoopsBy X x ∧ LoopsBy X y
  | .cond _ x y => LoopsBy X x ∧ LoopsBy X y
  | .block _ c => LoopsBy X c
  | .loop c => LoopsBy X c ∧ ∀ i, firstRegion c = some i → incNm 0 (X.lp i).keep = true ∧ ∀ s k r, X.L i s k = some r → ∃ fuel, vloop X c i fuel s k = some r
  | _ => True

def loopsIn : Code → List (Nat × Code)
  | .seq x y => loopsIn x ++ loopsIn y
  | .cond _ x y => loopsIn x ++ loopsIn y
  | .block _ c => loopsIn c
  | .loop c => match firstRegion c with
    | some i => (i, c) :: loopsIn c
    | none => loopsIn c
  | _ => []

def findLoop (i : Nat) : List (Nat × Code) → Code
  | [] => .skip
  | (j, c) :: l => bif Nat.beq i j then c else findLoop i l

theorem LoopsBy.of {X : Env} : ∀ {code : Code}, (∀ p ∈ loopsIn code, incNm 0 (X.lp p.1).keep = true ∧ ∀ s k r, X.L p.1 s k = some r → ∃ fuel, vloop X p.2 p.1 fuel s k = some r) → LoopsBy X code := by
  intro code
  induction code with
  | seq x y ihx ihy => intro h; exact ⟨ihx fun p hp => h p (List.mem_append_left _ hp), ihy fun p hp => h p (List.mem_append_right _ hp)⟩
  | cond c x y ihx ihy => intro h; exact ⟨ihx fun p hp => h p (List.mem_append_left _ hp), ihy fun p hp => h p (List.mem_append_right _ hp)⟩
  | block id c ih => intro h; exact ih h
  | loop c ih =>
    intro h
    refine ⟨ih fun p hp => h p ?_, fun i hi => h (i, c) ?_⟩
    · simp only [loopsIn]; split
      · exact List.mem_cons_of_mem _ hp
      · exact hp
    · simp only [loopsIn, hi]; exact List.mem_cons_self
  | _ => intro _; trivial

/-- The labels behind a function's body. -/
def outO (L : List Mv) (nb : Nat) : Lab → Lab
  | .ow τ p => match L.find? (fun m => Nat.beq m.τ τ) with
    | none => .no
    | some m => match m.σ with
      | none => .im
      | some σ => match m.row with
        | none => .ow σ p
        | some j => if p = some j then .ow σ none else .no
  | .bx (.par j) => if j < nb then .bx (.par j) else .no
  | .bx (.own _) => .no
  | l => l

theorem find_mv {L : List Mv} (hd : (L.map Mv.τ).Nodup) {m : Mv} (hm : m ∈ L) : L.find? (fun x => Nat.beq x.τ m.τ) = some m := by
  induction L with
  | nil => simp at hm
  | cons x L ih =>
    simp only [List.map_cons, List.nodup_cons] at hd
    rcases List.mem_cons.1 hm with rfl | h
    · simp
    · have hne : x.τ ≠ m.τ := fun e => hd.1 (by rw [e]; exact List.mem_map.2 ⟨m, h, rfl⟩)
      rw [List.find?_cons]
      have : Nat.beq x.τ m.τ = false := by rw [Bool.eq_false_iff]; intro e; rw [Nat.beq_eq] at e; exact hne e
      rw [this]
      exact ih hd.2 h

theorem outO_fits {L : List Mv} {nb : Nat} (hd : (L.map Mv.τ).Nodup) : ∀ m ∈ L, m.fits (outO L nb) := by
  intro m hm
  have hf := find_mv hd hm
  unfold Mv.fits
  split
  · rename_i h0
    intro p
    simp only [outO, hf, h0]
  · rename_i σ h0
    split
    · rename_i h1
      intro p
      simp only [outO, hf, h0, h1]
    · rename_i j h1
      simp only [outO, hf, h0, h1, if_true]

theorem inSlots_mem {l : Loc} {x : SV} : ∀ (cs : List CV) (i : Nat), (l, x) ∈ inSlots i cs →
    ∃ j c, cs[j]? = some c ∧ ((l = .slot (i + j) ∧ x = .v (ofCV (List.range 40 |>.map .par) (nm (.slot (i + j))) c).1) ∨ ∃ d, c = .ow d ∧ l = .tok (nm (.slot (i + j))) ∧ x = .t 0 d)
  | [], i, h => by simp [inSlots] at h
  | c :: cs, i, h => by
    simp only [inSlots, List.cons_append, List.mem_cons, List.mem_append] at h
    rcases h with h | h | h
    · injection h with h1 h2; exact ⟨0, c, rfl, .inl ⟨h1, h2⟩⟩
    · refine ⟨0, c, rfl, .inr ?_⟩
      cases c with
      | ow d => simp only [ofCV, List.mem_singleton] at h; injection h with h1 h2; exact ⟨d, rfl, h1, h2⟩
      | _ => simp [ofCV] at h
    · obtain ⟨j, c', h1, h2⟩ := inSlots_mem cs (i + 1) h
      exact ⟨j + 1, c', by simpa using h1, by rw [show i + (j + 1) = i + 1 + j by omega]; exact h2⟩

theorem inBoxes_mem {l : Loc} {x : SV} : ∀ (cs : List CV) (i : Nat), (l, x) ∈ inBoxes i cs →
    ∃ j c, cs[j]? = some c ∧ ((l = .box (.par (i + j)) ∧ x = .v (ofCV (List.range 40 |>.map .par) (nm (.box (.par (i + j)))) c).1) ∨ ∃ d, c = .ow d ∧ l = .tok (nm (.box (.par (i + j)))) ∧ x = .t 0 d)
  | [], i, h => by simp [inBoxes] at h
  | c :: cs, i, h => by
    simp only [inBoxes, List.cons_append, List.mem_cons, List.mem_append] at h
    rcases h with h | h | h
    · injection h with h1 h2; exact ⟨0, c, rfl, .inl ⟨h1, h2⟩⟩
    · refine ⟨0, c, rfl, .inr ?_⟩
      cases c with
      | ow d => simp only [ofCV, List.mem_singleton] at h; injection h with h1 h2; exact ⟨d, rfl, h1, h2⟩
      | _ => simp [ofCV] at h
    · obtain ⟨j, c', h1, h2⟩ := inBoxes_mem cs (i + 1) h
      exact ⟨j + 1, c', by simpa using h1, by rw [show i + (j + 1) = i + 1 + j by omega]; exact h2⟩

def parB (B : Nat → Nat) : Key → Nat
  | .par j => B j
  | .own _ => 0

theorem ks40 {B : Nat → Nat} {j : Nat} (h : j < 40) : callB (parB B) (List.range 40 |>.map .par) j = B j := by
  unfold callB
  rw [List.getD_eq_getElem?_getD, List.getElem?_map, List.getElem?_range h]
  rfl

theorem CVR.key {E : El} {O : Lbl} {w : World} {B : Nat → Nat} {τ : Nat} {v : Value} {c : CV} (h : CVR E O w B τ v c) (hi : c.idxOk = true) : CVR E O w (callB (parB B) (List.range 40 |>.map .par)) τ v c := by
  cases c with
  | fn f cs =>
    have h' : v = .func (.func f) #[] (cs.map fun j => Value.pointer (some ⟨B j, 0, none⟩)).toArray := h
    show v = _
    rw [h']
    congr 2
    refine List.map_congr_left fun j hj => ?_
    simp only [CV.idxOk, List.all_eq_true, Nat.blt_eq] at hi
    rw [ks40 (hi j hj)]
  | pt j =>
    have h' : v = .pointer (some ⟨B j, 0, none⟩) := h
    simp only [CV.idxOk, Nat.blt_eq] at hi
    show v = _
    rw [h', ks40 hi]
  | _ => exact h

section
variable {P : Program} {E : El} {CR : CRel} {X : Env}

section
variable {K : Kf} {n : Nat} {G : Gh} {s : St} {a : Act} {w : World}

theorem frz_ok : ∀ (ls : List Loc) {G : Gh} {s : St}, Rel E n G s a w → ∃ G', Rel E n G' (frzL ls s) a w ∧ Fr G.O w G'.O w := by
  intro ls
  induction ls with
  | nil => intro G s R; exact ⟨G, R, Fr.refl _ _⟩
  | cons l ls ih =>
    intro G s R
    unfold frzL
    split
    · rename_i v hv
      split
      · rename_i τ hτ
        split
        · exact ih R
        · rename_i iv c hnh hc
          obtain ⟨R', f'⟩ := R.freeze (s' := (.tok τ, .f c.pv) :: s) (fun m => by
            rw [get_cons]
            by_cases e : Loc.tok τ = m
            · rw [if_pos e]; exact .inr ⟨τ, iv, c, e.symm, hc, fun k xss e => hnh k xss e, rfl⟩
            · rw [if_neg e]; exact .inl rfl)
          obtain ⟨G2, R2, f2⟩ := ih R'
          exact ⟨G2, R2, f'.trans f2⟩
        · exact ih R
      · exact ih R
    · exact ih R

theorem vp_nil {O : Lbl} {w : World} {x : PV} (h : (NlM.im x).ok = true) : VP O w (.slice none 0 0) x := by
  cases x with
  | ints k xs => cases xs with
    | nil => exact ⟨none, 0, rfl, Nat.le_refl _, Nat.zero_le _, fun h => absurd rfl h⟩
    | cons => cases h
  | strs xs => cases xs with
    | nil => exact ⟨none, 0, rfl, Nat.le_refl _, Nat.zero_le _, fun h => absurd rfl h⟩
    | cons => cases h
  | rows xs => cases xs with
    | nil => exact ⟨[], ⟨none, 0, rfl, Nat.le_refl _, Nat.zero_le _, fun h => absurd rfl h⟩, rfl, fun j h xs hh => by simp at hh⟩
    | cons => cases h
  | _ => cases h

theorem vc_nil {O : Lbl} {w : World} {σ : Nat} {c : Ct} (h : (NlM.tok c).ok = true) : VC E O w σ (.slice none 0 0) c := by
  have emp : ∀ e lab, SlO O w lab e (.slice none 0 0) [] := fun e lab => ⟨⟨rfl, .inl ⟨rfl, rfl⟩⟩, fun g hg => absurd hg (by simp [Value.ownBlock])⟩
  cases c with
  | ints k xs => cases xs with
    | nil => exact emp _ _
    | cons => cases h
  | strs xs => cases xs with
    | nil => exact emp _ _
    | cons => cases h
  | rows b xs => cases xs with
    | nil => exact ⟨[], emp _ _, rfl, fun j h xs hh => by simp at hh⟩
    | cons => cases h
  | hole k xs => cases h

theorem nl_ok : ∀ (ls : List (Loc × NlM)) {G : Gh} {s : St}, Rel E n G s a w → ∃ G', Rel E n G' (nlL ls s) a w ∧ Fr G.O w G'.O w := by
  intro ls
  induction ls with
  | nil => intro G s R; exact ⟨G, R, Fr.refl _ _⟩
  | cons p ls ih =>
    obtain ⟨l, m⟩ := p
    intro G s R
    unfold nlL
    split
    · rename_i hv
      -- the value there is the slice without memory
      cases m with
      | im x =>
        cases hb : ((NlM.im x).ok && !isTokL l) with
        | false => exact ih R
        | true =>
          simp only [Bool.and_eq_true, Bool.not_eq_true'] at hb
          obtain ⟨hok, hlt⟩ := hb
          have hts : ∀ σ, TokStep G s w G ((l, .v (.sc x)) :: s) w σ := fun σ => TokStep.same (by
            rw [get_cons, if_neg]; intro e; subst e; cases hlt) rfl fun _ _ _ _ _ _ => rfl
          have R' : Rel E n G ((l, .v (.sc x)) :: s) a w := by
            refine R.step R.size R.defers (fun g h => ⟨h, rfl⟩) (fun t v h => ?_) (fun b v h => ?_) (fun τ iv c h => ?_) (fun τ y h => ?_) R.fresh
            · rw [get_cons] at h
              by_cases e : l = .slot t
              · rw [if_pos e] at h
                injection h with h; subst h; subst e
                have : a.tmps.getD t undef = .slice none 0 0 := R.slots t _ hv
                rw [this]
                exact .inr (vp_nil hok)
              · rw [if_neg e] at h
                exact .inl ⟨h, rfl, fun σ _ => hts σ, fun _ _ => rfl⟩
            · rw [get_cons] at h
              by_cases e : l = .box b
              · rw [if_pos e] at h
                injection h with h; subst h; subst e
                rcases R.boxes b _ hv with h | ⟨h1, u, e, h2, h3⟩
                · cases h
                · refine .inr (.inr ⟨h1, u, e, h2, ?_⟩)
                  have h3' : u = .slice none 0 0 := h3
                  rw [h3']
                  exact vp_nil hok
              · rw [if_neg e] at h
                exact .inr (.inl ⟨h, rfl, fun h => ⟨h, rfl⟩, fun σ _ => hts σ, fun _ _ => rfl⟩)
            · rw [get_cons, if_neg (by intro e; subst e; cases hlt)] at h
              exact .inl ⟨⟨iv, h⟩, rfl, fun g p h _ => ⟨h, rfl⟩⟩
            · rw [get_cons, if_neg (by intro e; subst e; cases hlt)] at h
              exact .inl ⟨h, rfl⟩
          exact ih R'
      | tok c =>
        cases hb : ((NlM.tok c).ok && !isTokL l && noRef (400000000 + nm l) s && !(s.get (.tok (400000000 + nm l))).live) with
        | false => exact ih R
        | true =>
          simp only [Bool.and_eq_true, Bool.not_eq_true'] at hb
          obtain ⟨⟨⟨hok, hlt⟩, hnr⟩, hlv⟩ := hb
          generalize hσ0 : 400000000 + nm l = σ0 at hnr hlv ⊢
          have hno := noRef_get hnr
          have hlt' : ∀ τ, l ≠ .tok τ := by intro τ e; subst e; cases hlt
          let G' : Gh := { G with H := updH G.H σ0 (.slice none 0 0) }
          let s' : St := (l, .v (.rf σ0)) :: (.tok σ0, .t 0 c) :: s
          have hget : ∀ m, m ≠ l → m ≠ .tok σ0 → St.get s' m = s.get m := by
            intro m h1 h2
            show St.get ((l, _) :: (.tok σ0, _) :: s) m = _
            rw [get_cons, if_neg (fun e => h1 e.symm), get_cons, if_neg (fun e => h2 e.symm)]
          have hgl : St.get s' l = .v (.rf σ0) := by show St.get ((l, _) :: _) l = _; rw [get_cons, if_pos rfl]
          have hgt : St.get s' (.tok σ0) = .t 0 c := by
            show St.get ((l, _) :: (.tok σ0, _) :: s) _ = _
            rw [get_cons, if_neg (hlt' σ0), get_cons, if_pos rfl]
          have hH : ∀ σ, σ ≠ σ0 → G'.H σ = G.H σ := fun σ h => by show updH _ _ _ σ = _; simp [updH, h]
          have hH0 : G'.H σ0 = .slice none 0 0 := by show updH _ _ _ σ0 = _; simp [updH]
          have hts : ∀ σ, σ ≠ σ0 → TokStep G s w G' s' w σ := fun σ h => TokStep.same (hget _ (fun e => hlt' σ e.symm) (by simpa using h)) (hH σ h) fun _ _ _ _ _ _ => rfl
          have hnt : ∀ m v, s.get m = .v v → ∀ σ ∈ v.toks, σ ≠ σ0 := fun m v hm σ hσ e => by subst e; exact hno m v hm hσ
          have R' : Rel E n G' s' a w := by
            refine R.step R.size R.defers (fun g h => ⟨h, rfl⟩) (fun t v h => ?_) (fun b v h => ?_) (fun τ iv d h => ?_) (fun τ y h => ?_) R.fresh
            · by_cases e : l = .slot t
              · subst e
                rw [hgl] at h
                injection h with h; subst h
                have : a.tmps.getD t undef = .slice none 0 0 := R.slots t _ hv
                rw [this]
                exact .inr ⟨trivial, fun _ => hH0.symm⟩
              · rw [hget _ (fun e' => e e'.symm) (by simp)] at h
                exact .inl ⟨h, rfl, fun σ hσ => hts σ (hnt _ _ h σ hσ), fun _ _ => rfl⟩
            · by_cases e : l = .box b
              · subst e
                rw [hgl] at h
                injection h with h; subst h
                rcases R.boxes b _ hv with h | ⟨h1, u, e, h2, h3⟩
                · cases h
                · refine .inr (.inr ⟨h1, u, e, h2, ?_⟩)
                  have h3' : u = .slice none 0 0 := h3
                  rw [h3']
                  exact ⟨trivial, fun _ => hH0.symm⟩
              · rw [hget _ (fun e' => e e'.symm) (by simp)] at h
                exact .inr (.inl ⟨h, rfl, fun h => ⟨h, rfl⟩, fun σ hσ => hts σ (hnt _ _ h σ hσ), fun _ _ => rfl⟩)
            · by_cases e : τ = σ0
              · subst e
                rw [hgt] at h
                injection h with h1 h2; subst h2
                refine .inr ?_
                rw [hH0]
                exact vc_nil hok
              · rw [hget _ (fun e' => hlt' τ e'.symm) (by simpa using e)] at h
                exact .inl ⟨⟨iv, h⟩, hH τ e, fun g p h _ => ⟨h, rfl⟩⟩
            · by_cases e : τ = σ0
              · subst e
                rw [hgt] at h
                cases h
              · rw [hget _ (fun e' => hlt' τ e'.symm) (by simpa using e)] at h
                exact .inl ⟨h, hH τ e⟩
          obtain ⟨G2, R2, f2⟩ := ih R'
          exact ⟨G2, R2, f2⟩
    · exact ih R

theorem norm_ok (p : LpS) (hp : incNm 0 p.keep = true) (R : Rel E n G s a w) : ∃ G', Rel E n G' (normL p s) a w ∧ Fr G.O w G'.O w := by
  obtain ⟨G1, R1, f1⟩ := frz_ok p.fz R
  obtain ⟨G2, R2, f2⟩ := nl_ok p.nl R1
  obtain ⟨G3, R3, f3⟩ := clean_ok R2 hp
  exact ⟨G3, R3, (f1.trans f2).trans f3⟩

theorem vround_ok (hR : RegionsOK P E n X) (c : Code) (i : Nat) (hi : incNm 0 (X.lp i).keep = true) (hL : LoopsOK P E n X.L c) :
    ∀ fuel (G : Gh) (s : St) (a : Act) (w : World) (k : Ex → St → Option RT) (r : RT) (Q : Exit → Act → World → Prop), vround X c i fuel s k = some r → Rel E n G s a w →
      (∀ G' s' a' w' e, Rel E n G' s' a' w' → Fr G.O w G'.O w' → k e s' = some r → Q (exOf e) a' w') → LoopWp P c Q a w := by
  intro fuel
  induction fuel with
  | zero => intro G s a w k r Q h; cases h
  | succ fuel ih =>
    intro G s a w k r Q h R hk
    refine LoopWp.round (vexec_ok hR c hL G s a w _ r _ h R fun G' s' a' w' e R' f' h' => ?_)
    cases e with
    | nrm =>
      obtain ⟨G1, R1, f1⟩ := norm_ok (X.lp i) hi R'
      exact ih G1 _ a' w' k r Q h' R1 fun G2 s2 a2 w2 e2 R2 f2 h2 => hk G2 s2 a2 w2 e2 R2 ((f'.trans f1).trans f2) h2
    | ext i => exact hk G' s' a' w' (.ext i) R' f' h'
    | ret => exact hk G' s' a' w' .ret R' f' h'

theorem vloop_ok (hR : RegionsOK P E n X) (c : Code) (i : Nat) (hi : incNm 0 (X.lp i).keep = true) (hL : LoopsOK P E n X.L c) (fuel : Nat) : CodeSound P E n (.loop c) (vloop X c i fuel) := by
  intro G s a w k r Q h R hk
  obtain ⟨G1, R1, f1⟩ := norm_ok (X.lp i) hi R
  exact (vround_ok hR c i hi hL fuel G1 _ a w k r Q h R1 fun G2 s2 a2 w2 e2 R2 f2 h2 => hk G2 s2 a2 w2 e2 R2 (f1.trans f2) h2).wp
end

theorem loops_ok {n : Nat} (hR : RegionsOK P E n X) : ∀ code, LoopsBy X code → LoopsOK P E n X.L code := by
  intro code
  induction code with
  | seq x y ihx ihy => intro h; exact ⟨ihx h.1, ihy h.2⟩
  | cond c x y ihx ihy => intro h; exact ⟨ihx h.1, ihy h.2⟩
  | block id c ih => intro h; exact ih h
  | loop c ih =>
    intro h i hi G s a w k r Q hk R hq
    obtain ⟨hi', hl⟩ := h.2 i hi
    obtain ⟨fuel, hf⟩ := hl s k r hk
    exact vloop_ok hR c i hi' (ih h.1) fuel G s a w k r Q hf R hq
  | _ => intro _; trivial

theorem CVR.bp {O : Lbl} {w : World} {B : Nat → Nat} {τ : Nat} {v : Value} {c : CV} (B' : Nat → Nat) : CVR { E with BP := B' } O w B τ v c = CVR E O w B τ v c := by
  cases c with
  | ow d => cases d <;> rfl
  | _ => rfl

theorem BoxesR.bp {O : Lbl} {w : World} {B : Nat → Nat} {bx : List CV} (B' : Nat → Nat) : BoxesR { E with BP := B' } O w B bx ↔ BoxesR E O w B bx := by
  constructor
  · intro h
    exact ⟨h.lab, fun j c hc => by
      obtain ⟨u, e, h1, h2⟩ := h.val j c hc
      rw [CVR.bp] at h2
      exact ⟨u, e, h1, h2⟩⟩
  · intro h
    exact ⟨h.lab, fun j c hc => by
      obtain ⟨u, e, h1, h2⟩ := h.val j c hc
      rw [← CVR.bp (E := E) B'] at h2
      exact ⟨u, e, h1, h2⟩⟩

theorem CallSpec.bp {f : FuncId} {as bx rs bx' : List CV} (B' : Nat → Nat) (h : CallSpec P E f as bx rs bx') : CallSpec P { E with BP := B' } f as bx rs bx' := by
  intro O B vals w hO hl ha hb
  refine (h O B vals w hO hl (fun j v c h1 h2 => ?_) ((BoxesR.bp B').1 hb)).mono fun e w' hp => ?_
  · have q2 := ha j v c h1 h2
    rw [CVR.bp] at q2
    exact q2
  · obtain ⟨O', rv, h1, h2, h3, h4, h5, h6, h7⟩ := hp
    refine ⟨O', rv, h1, h2, h3, h4, fun j v c g1 g2 => ?_, h6, (BoxesR.bp B').2 h7⟩
    rw [CVR.bp]
    exact h5 j v c g1 g2

/-- A function's contract out of its body. -/
theorem body_ok {f : FuncId} {fn : Func} {code : Code} {as bx rs bx' : List CV} (hf : P.funcs[f]? = some fn) (hb : fn.body = some code) (hsz : fn.resultTypes.size = fn.results.size) (hn : fn.ntmps ≤ 10000)
    (hm : P.follows .mixedOrders = true) (hK : TyOK P X.K E) (hX : X.n = fn.ntmps) (hCO : ContractsOK P E CR) (hS : CSound X.C CR) (hL : LoopsBy X code)
    (hi : (as ++ bx).all CV.idxOk = true) (hna : as.length ≤ fn.ntmps)
    (h : vbody X fn code as bx (fun rs bx' => some ⟨rs, bx'⟩) = some ⟨rs, bx'⟩) : CallSpec P E f as bx rs bx' := by
  intro O B vals w hO hl hargs hbx
  let E' : El := { E with BP := B }
  have hK' : TyOK P X.K E' := hK
  have hCO' : ContractsOK P E' CR := fun f as bx rs bx' h => ⟨(hCO f as bx rs bx' h).1.bp B, (hCO f as bx rs bx' h).2⟩
  have hR : RegionsOK P E' fn.ntmps X := regions_ok hm hK' hX hS (calls_ok hCO' hn)
  have hLs : LoopsOK P E' fn.ntmps X.L code := loops_ok hR code hL
  refine calls_of_wp hf hb ?_
  simp only [List.all_append, Bool.and_eq_true, List.all_eq_true] at hi
  have hub0 : ∀ j, ∃ u : Value, ∀ c, bx[j]? = some c → ∃ e, w.heap[B j]? = some (.cells u.cells e (0, 0)) ∧ CVR E O w B (boxN j) u c := by
    intro j
    cases hj : bx[j]? with
    | none => exact ⟨undef, fun c h => by cases h⟩
    | some c =>
      obtain ⟨u, e, h1, h2⟩ := hbx.val j c hj
      exact ⟨u, fun c' h => by injection h with h; subst h; exact ⟨e, h1, h2⟩⟩
  obtain ⟨ub, hub⟩ := Classical.axiomOfChoice hub0
  let G : Gh := { O := O, H := fun σ => if 300000000 ≤ σ then ub (σ - 300000000) else vals.getD (σ - 100000000) undef, B := parB B }
  have hHb : ∀ j, G.H (boxN j) = ub j := fun j => by
    show (if 300000000 ≤ 300000000 + j then ub (300000000 + j - 300000000) else _) = _
    rw [if_pos (by omega), show 300000000 + j - 300000000 = j by omega]
  have hHs : ∀ j, j < 10000 → G.H (nm (.slot j)) = vals.getD j undef := fun j hj => by
    show (if 300000000 ≤ 100000000 + j then _ else vals.getD (100000000 + j - 100000000) undef) = _
    rw [if_neg (by omega), show 100000000 + j - 100000000 = j by omega]
  let a : Act := { tmps := vals.toArray ++ Array.replicate (fn.ntmps - vals.toArray.size) undef, defers := [] }
  have key : ∀ l x, St.get (inSlots 0 as ++ inBoxes 0 bx) l = x → x = .v .un ∨ (∃ j c, as[j]? = some c ∧ ((l = .slot j ∧ x = .v (ofCV (List.range 40 |>.map .par) (nm (.slot j)) c).1) ∨ ∃ d, c = .ow d ∧ l = .tok (nm (.slot j)) ∧ x = .t 0 d)) ∨
      ∃ j c, bx[j]? = some c ∧ ((l = .box (.par j) ∧ x = .v (ofCV (List.range 40 |>.map .par) (boxN j) c).1) ∨ ∃ d, c = .ow d ∧ l = .tok (boxN j) ∧ x = .t 0 d) := by
    intro l x hx
    by_cases hm : l ∈ locsOf (inSlots 0 as ++ inBoxes 0 bx)
    · have := get_mem hm []
      rw [List.append_nil, hx] at this
      rcases List.mem_append.1 this with h | h
      · obtain ⟨j, c, h1, h2⟩ := inSlots_mem as 0 h
        rw [Nat.zero_add] at h2
        exact .inr (.inl ⟨j, c, h1, h2⟩)
      · obtain ⟨j, c, h1, h2⟩ := inBoxes_mem bx 0 h
        rw [Nat.zero_add] at h2
        exact .inr (.inr ⟨j, c, h1, h2⟩)
    · have := get_out hm []
      rw [List.append_nil] at this
      rw [this] at hx
      exact .inl hx.symm
  have vr : ∀ {v : Value} {c : CV} {τ σ : Nat}, CVR E O w B τ v c → c.idxOk = true → (∀ d, c = .ow d → G.H σ = v) → VR G (inSlots 0 as ++ inBoxes 0 bx) w v (ofCV (List.range 40 |>.map .par) σ c).1 := by
    intro v c τ σ hc hi hH
    exact vr_of0 (cvr_vr (E := E) (O' := O) (O2 := O) (hc.key hi) (.inr fun g hg => hg) rfl hH) (ofCV_ntp _ _ c)
  have R : Rel E' fn.ntmps G (inSlots 0 as ++ inBoxes 0 bx) a w := by
    refine ⟨by simp [a]; omega, rfl, fun t v hv => ?_, fun b v hv => ?_, fun τ iv c hc => ?_, fun τ x hx => ?_, hO, fun j => rfl⟩
    · rcases key _ _ hv with h | ⟨j, c, h1, ⟨h2, h3⟩ | ⟨d, h2, h3, h4⟩⟩ | ⟨j, c, h1, ⟨h2, h3⟩ | ⟨d, h2, h3, h4⟩⟩
      · injection h with h; subst h; exact trivial
      · injection h2 with h2; injection h3 with h3; subst h2; subst h3
        have hj : t < vals.length := by rw [hl]; exact (List.getElem?_eq_some_iff.1 h1).1
        have hv' : vals[t]? = some vals[t] := List.getElem?_eq_getElem hj
        have q2 := hargs t _ c hv' h1
        have e : a.tmps.getD t undef = vals[t] := by
          simp only [a, Array.getD_eq_getD_getElem?]
          rw [Array.getElem?_append_left (by simpa using hj)]
          simp [hv']
        rw [e]
        exact vr q2 (hi.1 c (List.mem_of_getElem? h1)) fun d hd => by rw [hHs t (by omega), List.getD_eq_getElem?_getD, hv']; rfl
      · cases h3
      · cases h2
      · cases h3
    · rcases key _ _ hv with h | ⟨j, c, h1, ⟨h2, h3⟩ | ⟨d, h2, h3, h4⟩⟩ | ⟨j, c, h1, ⟨h2, h3⟩ | ⟨d, h2, h3, h4⟩⟩
      · injection h with h; exact .inl h
      · cases h2
      · cases h3
      · injection h2 with h2; injection h3 with h3; subst h2; subst h3
        obtain ⟨e, q1, q2⟩ := hub j c h1
        exact .inr ⟨hbx.lab j (List.getElem?_eq_some_iff.1 h1).1, ub j, e, q1, vr q2 (hi.2 c (List.mem_of_getElem? h1)) fun d hd => hHb j⟩
      · cases h3
    · rcases key _ _ hc with h | ⟨j, c, h1, ⟨h2, h3⟩ | ⟨d, h2, h3, h4⟩⟩ | ⟨j, c, h1, ⟨h2, h3⟩ | ⟨d, h2, h3, h4⟩⟩
      · cases h
      · cases h2
      · injection h3 with h3; injection h4 with h4 h5; subst h3; subst h5; subst h2
        have hj : j < vals.length := by rw [hl]; exact (List.getElem?_eq_some_iff.1 h1).1
        have hv' : vals[j]? = some vals[j] := List.getElem?_eq_getElem hj
        have q2 := hargs j _ _ hv' h1
        show VC E O w (nm (.slot j)) (G.H (nm (.slot j))) _
        rw [hHs j (by omega), List.getD_eq_getElem?_getD, hv']
        exact q2
      · cases h2
      · injection h3 with h3; injection h4 with h4 h5; subst h3; subst h5; subst h2
        obtain ⟨e, q1, q2⟩ := hub j _ h1
        show VC E O w (boxN j) (G.H (boxN j)) _
        rw [hHb j]
        exact q2
    · rcases key _ _ hx with h | ⟨j, c, h1, ⟨h2, h3⟩ | ⟨d, h2, h3, h4⟩⟩ | ⟨j, c, h1, ⟨h2, h3⟩ | ⟨d, h2, h3, h4⟩⟩
      · cases h
      · cases h2
      · cases h4
      · cases h2
      · cases h4
  have hvals : vals.toArray.size = as.length := by simpa using hl
  refine vexec_ok hR code hLs G _ a w _ ⟨rs, bx'⟩ _ h R fun G' s' a' w' e R' hfr hk => ?_
  have fin : (outRes X.K X.rim s' 0 (fn.results.toList.zip fn.resultTypes.toList) [] fun cs used => outBox X.K s' 0 bx.length used fun r => some ⟨cs, r⟩) = some ⟨rs, bx'⟩ →
      a'.defers = [] ∧ ∃ v, (results fn a'.tmps).run P w' = .ok v w' ∧ ∃ (O' : Lbl) (rv : List Value), Ending.returned v = .returned (resVal rv) ∧ Fr O w O' w' ∧ (∀ g, w'.heap.size ≤ g → O' g = .no) ∧ rv.length = rs.length ∧
      (∀ (j : Nat) v c, rv[j]? = some v → rs[j]? = some c → CVR E O' w' B (resN j) v c) ∧ bx'.length = bx.length ∧ BoxesR E O' w' B bx' := by
    intro hk
    obtain ⟨cs, used1, L1, rv, h1, u1, l1, l2, r1, o1⟩ := outRes_spec hK' R' B X.rim _ 0 [] _ hk
    obtain ⟨cs2, used2, L2, h2, u2, l3, o2⟩ := outBox_spec R' bx.length 0 used1 _ h1
    injection h2 with h2
    injection h2 with h2 h3
    subst h2; subst h3
    have hzl : (fn.results.toList.zip fn.resultTypes.toList).length = fn.results.size := by simp [hsz]
    have hU := u1.trans u2
    let φ := outO (L1 ++ L2) bx.length
    have hφ : ∀ m ∈ L1 ++ L2, m.fits φ := outO_fits hU.2.2
    refine ⟨R'.defers, resVal rv, run_results (by rw [l2, hzl]) (fun j x hj => ?_), fun g => φ (G'.O g), rv, rfl, ⟨hfr.os, hfr.tape, hfr.output, hfr.size, fun g hg => ?_, fun g hg h => ?_⟩, fun g hg => ?_, by rw [l1, l2], fun j v c h4 h5 => ?_, l3, ⟨fun j hj => ?_, fun j c hc => ?_⟩⟩
    · have hlt : j < fn.results.size := (Array.getElem?_eq_some_iff.1 hj).1
      have : (fn.results.toList.zip fn.resultTypes.toList)[j]? = some (x, fn.resultTypes[j]'(by omega)) := by
        rw [List.getElem?_zip_eq_some]
        exact ⟨by simpa using hj, by simp [hsz, hlt]⟩
      exact r1 j x _ this
    · obtain ⟨q1, q2⟩ := hfr.im g hg
      exact ⟨by show φ (G'.O g) = _; rw [q1]; rfl, q2⟩
    · obtain ⟨q1, q2⟩ := hfr.no g hg h
      exact ⟨by show φ (G'.O g) = _; rw [q1]; rfl, q2⟩
    · show φ (G'.O g) = _
      rw [R'.fresh g hg]; rfl
    · have := o1 j v c h4 h5
      rw [Nat.zero_add] at this
      exact this φ rfl fun m hm => hφ m (List.mem_append_left _ hm)
    · have hj' : j < bx.length := by omega
      obtain ⟨v, e, q1, q2, q3⟩ := o2 j _ (List.getElem?_eq_getElem (by omega))
      rw [Nat.zero_add] at q1
      show φ (G'.O (B j)) = _
      have q1' : G'.O (B j) = .bx (.par j) := q1
      rw [q1']
      show (if j < bx.length then Lab.bx (.par j) else .no) = _
      rw [if_pos hj']
    · obtain ⟨v, e, q1, q2, q3⟩ := o2 j c hc
      rw [Nat.zero_add] at q2 q3
      exact ⟨v, e, q2, q3 φ rfl fun m hm => hφ m (List.mem_append_right _ hm)⟩
  cases e with
  | ext i => cases hk
  | nrm => exact fin hk
  | ret => exact fin hk
end
end Go.Tm
