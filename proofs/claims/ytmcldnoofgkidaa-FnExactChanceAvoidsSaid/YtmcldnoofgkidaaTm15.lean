/- The T-machine: arrays, boxes, made slices; all operations but calls. -/
import Derived.Test.YtmcldnoofgkidaaTm14
set_option linter.unusedVariables false
set_option linter.unusedSimpArgs false
namespace Go.Tm
open Go.RowKit

/-- Nothing of the state points to the box of slot t. -/
def NoPts (t : Nat) (s : St) : Prop := ∀ l v, s.get l = .v v → Key.own t ∉ v.bks

theorem Key.has_iff {b : Key} {l : List Key} : Key.has b l = true ↔ b ∈ l := by
  induction l with
  | nil => simp [Key.has]
  | cons a l ih => simp [Key.has, ih, Key.beq_iff]

theorem noPts_get {t : Nat} {s : St} (h : noPts t s = true) : NoPts t s := by
  induction s with
  | nil => intro l v hv; simp at hv; subst hv; simp [VV.bks]
  | cons p s ih =>
    obtain ⟨m, x⟩ := p
    intro l v hv
    rw [get_cons] at hv
    cases x with
    | v y =>
      simp only [noPts, VV.points, Bool.and_eq_true, Bool.not_eq_true', Bool.eq_false_iff, ne_eq, Key.has_iff] at h
      split at hv
      · injection hv with hv; subst hv; exact h.1
      · exact ih h.2 l v hv
    | t iv c =>
      simp only [noPts] at h
      split at hv
      · cases hv
      · exact ih h l v hv
    | f c =>
      simp only [noPts] at h
      split at hv
      · cases hv
      · exact ih h l v hv

section
variable {P : Program} {K : Kf} {E : El} {n : Nat} {G : Gh} {s : St} {a : Act} {w : World} {CR : CRel} {o : Oper} {u : St}

theorem Rel.newBox (R : Rel E n G s a w) {t : Nat} {v : VV} {val : Value} {e : TypeId} (ht : t < n) (hno : NoPts t s) (hv : VR G s w val v) (hb : Key.own t ∉ v.bks) :
    ∃ G', Rel E n G' ([(.box (.own t), .v v), (.slot t, .v (.pt (.own t)))] ++ s) (a.put (some t) (.pointer (some ⟨w.heap.size, 0, none⟩))) (w.alloc (.cells val.cells e)) ∧ Fr G.O w G'.O (w.alloc (.cells val.cells e)) := by
  have hsz : t < a.tmps.size := by rw [R.size]; exact ht
  have hold : ∀ g, g < w.heap.size → (w.alloc (.cells val.cells e)).heap[g]? = w.heap[g]? := fun g hg => Below.heap_alloc w _ g hg
  have hlt : ∀ g, G.O g ≠ .no → g < w.heap.size := by
    intro g hg
    rcases Nat.lt_or_ge g w.heap.size with h | h
    · exact h
    · exact absurd (R.fresh g h) hg
  let O' : Lbl := fun g => if g = w.heap.size then .bx (.own t) else G.O g
  let G' : Gh := { O := O', H := G.H, B := fun b => if b = .own t then w.heap.size else G.B b }
  have hO : ∀ g, g < w.heap.size → O' g = G.O g := fun g hg => by show (if g = w.heap.size then _ else _) = _; rw [if_neg (by omega)]
  have hB : ∀ b, b ≠ .own t → G'.B b = G.B b := fun b hb => by show (if b = .own t then _ else _) = _; rw [if_neg hb]
  have hsize : w.heap.size ≤ (w.alloc (.cells val.cells e)).heap.size := by show _ ≤ (w.heap.push _).size; simp
  have hsize' : (w.alloc (.cells val.cells e)).heap.size = w.heap.size + 1 := by show (w.heap.push _).size = _; simp
  have him : ∀ g, G.O g = .im → O' g = .im ∧ (w.alloc (.cells val.cells e)).heap[g]? = w.heap[g]? := fun g hg => by
    have := hlt g (by rw [hg]; simp)
    exact ⟨by rw [hO g this, hg], hold g this⟩
  have hgett : ∀ σ, St.get ([(Loc.box (.own t), SV.v v), (.slot t, .v (.pt (.own t)))] ++ s) (.tok σ) = s.get (.tok σ) := by
    intro σ
    rw [List.cons_append, get_cons, if_neg (by simp), List.singleton_append, get_cons, if_neg (by simp)]
  have hts : ∀ σ, TokStep G s w G' ([(Loc.box (.own t), SV.v v), (.slot t, .v (.pt (.own t)))] ++ s) (w.alloc (.cells val.cells e)) σ := fun σ =>
    TokStep.same (hgett σ) rfl fun i d hd k m hm => (R.toks σ i d hd).outer (fun g hg => hold g (hlt g (by rw [hg]; simp))) k m hm
  refine ⟨G', R.step (by rw [size_put]; exact R.size) (by rw [defers_put]; exact R.defers) him (fun t' y hy => ?_) (fun b y hy => ?_) (fun σ i d h => ?_) (fun σ x h => ?_) (fun g hg => ?_),
    ⟨rfl, rfl, rfl, hsize, him, fun g hg h => ⟨by rw [show G'.O = O' from rfl, hO g hg, h], hold g hg⟩⟩⟩
  · rw [List.cons_append, get_cons, if_neg (by simp), List.singleton_append, get_cons] at hy
    rw [getD_put a t _ t' hsz]
    by_cases e0 : t = t'
    · subst e0
      rw [if_pos rfl] at hy ⊢
      injection hy with hy
      subst hy
      refine .inr ?_
      show _ = Value.pointer (some ⟨(if Key.own t = .own t then _ else _), 0, none⟩)
      rw [if_pos rfl]
    · rw [if_neg (by simpa using e0)] at hy
      rw [if_neg e0]
      exact .inl ⟨hy, rfl, fun σ _ => hts σ, fun b hb' => hB b (by rintro rfl; exact hno _ _ hy hb')⟩
  · rw [List.cons_append, get_cons] at hy
    by_cases e0 : Key.own t = b
    · subst e0
      rw [if_pos rfl] at hy
      injection hy with hy
      subst hy
      refine .inr (.inr ⟨?_, val, e, ?_, hv.keep (fun σ _ => hts σ) (fun b hb' => hB b (by rintro rfl; exact hb hb')) him⟩)
      · show (if (if Key.own t = .own t then _ else _) = w.heap.size then _ else _) = _
        rw [if_pos rfl, if_pos rfl]
      · show (w.alloc _).heap[(if Key.own t = .own t then _ else _)]? = _
        rw [if_pos rfl]
        exact heap_alloc_new w _
    · rw [if_neg (by simpa using e0), List.singleton_append, get_cons, if_neg (by simp)] at hy
      refine .inr (.inl ⟨hy, hB b (fun h => e0 h.symm), fun h => ?_, fun σ _ => hts σ, fun b hb' => hB b (by rintro rfl; exact hno _ _ hy hb')⟩)
      have := hlt _ (by rw [h]; simp)
      exact ⟨by rw [show G'.O = O' from rfl, hO _ this, h], hold _ this⟩
  · rw [hgett] at h
    exact .inl ⟨⟨i, h⟩, rfl, fun g p hg hl => ⟨by rw [show G'.O = O' from rfl, hO _ hl, hg], hold g hl⟩⟩
  · rw [hgett] at h
    exact .inl ⟨h, rfl⟩
  · rw [hsize'] at hg
    show (if g = w.heap.size then _ else _) = _
    rw [if_neg (by omega)]
    exact R.fresh g (by omega)

theorem alloc_ok (hK : TyOK P K E) (R : Rel E n G s a w) {e : TypeId} (ho : o.op = .alloc e) (hd : dstOk n o.dst = true) (hnp : ∀ t, o.dst = some t → NoPts t s) (hu : Runs CR s (vop K o) u) : OpOK E n P G s a w o u := by
  simp only [vop, ho] at hu
  cases hdst : o.dst with
  | none => rw [hdst] at hu; exact hu.elim
  | some t =>
    rw [hdst] at hu hd
    have ht : t < n := by simpa [dstOk, Nat.blt_eq] using hd
    dsimp only at hu
    have go : ∀ (i : TypeInfo) (z : Value) (v : VV), P.info? e = some i → i.zero = some z → VR G s w z v → v.bks = [] → u = [(.box (.own t), .v v), (.slot t, .v (.pt (.own t)))] → OpOK E n P G s a w o u := by
      intro i z v h1 h2 h3 h4 h5
      subst h5
      refine OpOK.of_value (exec_alloc ho h1 h2) ?_
      rw [hdst]
      exact R.newBox ht (hnp t hdst) h3 (by rw [h4]; simp)
    have hT := hK e
    cases hk : K e with
    | int k => rw [hk] at hT hu; obtain ⟨_, i, h1, _, h2⟩ := hT; exact go i _ _ h1 h2 (by rfl) (by rfl) hu
    | bool => rw [hk] at hT hu; obtain ⟨_, i, h1, _, h2⟩ := hT; exact go i _ _ h1 h2 (by rfl) (by rfl) hu
    | str => rw [hk] at hT hu; obtain ⟨_, i, h1, _, h2⟩ := hT; exact go i _ _ h1 h2 (by rfl) (by rfl) hu
    | slI k e' => rw [hk] at hT hu; obtain ⟨_, _, ⟨i, h1, _, h2⟩, _⟩ := hT; exact go i _ _ h1 h2 (by rfl) (by rfl) hu
    | slS e' => rw [hk] at hT hu; obtain ⟨_, _, ⟨i, h1, _, h2⟩, _⟩ := hT; exact go i _ _ h1 h2 (by rfl) (by rfl) hu
    | slR e' => rw [hk] at hT hu; obtain ⟨_, _, ⟨i, h1, _, h2⟩, _⟩ := hT; exact go i _ _ h1 h2 (by rfl) (by rfl) hu
    | arr k m => rw [hk] at hT hu; obtain ⟨_, _, ⟨i, h1, _, h2⟩, _⟩ := hT; exact go i _ (.sc (.arr k m (List.replicate m 0))) h1 h2 ⟨rfl, by simp⟩ (by rfl) hu
    | fn => rw [hk] at hT hu; obtain ⟨_, i, h1, _, h2⟩ := hT; exact go i _ _ h1 h2 (by rfl) (by rfl) hu
    | oth => rw [hk] at hu; exact hu.elim

theorem opv_bks {x : Operand} {v : VV} {t : Nat} (hv : Opv s x v) (hno : NoPts t s) : Key.own t ∉ v.bks := by
  cases x with
  | tmp t' => exact hno _ _ hv
  | const c =>
    have h' : v = ofConst c := hv
    subst h'
    unfold ofConst
    split <;> simp [VV.bks]
  | func f => have h' : v = .fn f [] := hv; subst h'; simp [VV.bks]
  | global g => exact hv.elim

theorem box_ok (R : Rel E n G s a w) {e : TypeId} {x : Operand} (ho : o.op = .box e x) (hd : dstOk n o.dst = true) (hnp : ∀ t, o.dst = some t → NoPts t s) (hu : Runs CR s (vop K o) u) : OpOK E n P G s a w o u := by
  simp only [vop, ho] at hu
  cases hdst : o.dst with
  | none => rw [hdst] at hu; exact hu.elim
  | some t =>
    rw [hdst] at hu hd
    have ht : t < n := by simpa [dstOk, Nat.blt_eq] using hd
    dsimp only at hu
    obtain ⟨v, hv, hu⟩ := runs_opd hu
    obtain ⟨_, hu⟩ := hu
    have hx := opv_ok R hv
    have hu' : u = [(.box (.own t), .v v), (.slot t, .v (.pt (.own t)))] := hu
    subst hu'
    refine OpOK.of_value (exec_box ho rfl) ?_
    rw [hdst]
    exact R.newBox ht (hnp t hdst) hx (opv_bks hv (hnp t hdst))

theorem nilCheck_ok (R : Rel E n G s a w) {x : Operand} (ho : o.op = .nilCheck x) (hd : dstOk n o.dst = true) (hu : Runs CR s (vop K o) u) : OpOK E n P G s a w o u := by
  simp only [vop, ho] at hu
  obtain ⟨v, hv, hu⟩ := runs_opd hu
  have hx := opv_ok R hv
  cases v with
  | pt b =>
    have hx' : a.eval x = .pointer (some ⟨G.B b, 0, none⟩) := hx
    refine put_ok R hd (v := a.eval x) ?_ hx hu
    rw [hx']
    simp only [execOp, ho, hx']
    rfl
  | _ => exact hu.elim

theorem makeSlice_ok (hK : TyOK P K E) (R : Rel E n G s a w) {T : TypeId} {l c : Operand} (ho : o.op = .makeSlice T l c) (hd : dstOk n o.dst = true) (hn : n ≤ 100000000) (hu : Runs CR s (vop K o) u) (hfr : Fresh s u) : OpOK E n P G s a w o u := by
  simp only [vop, ho] at hu
  cases hdst : o.dst with
  | none => rw [hdst] at hu; exact hu.elim
  | some t =>
    rw [hdst] at hu hd
    have ht : t < n := by simpa [dstOk, Nat.blt_eq] using hd
    dsimp only at hu
    obtain ⟨v, hv, hu⟩ := runs_opd hu
    obtain ⟨kl, m, hl, hu⟩ := runs_asI (opv_ok R hv) hu
    obtain ⟨v', hv', hu⟩ := runs_opd hu
    obtain ⟨kc, m', hc, hu⟩ := runs_asI (opv_ok R hv') hu
    have hT := hK T
    have fin : ∀ (e : TypeId) (inf : TypeInfo) (z : Value) (ct : Ct) (cells : List Value), P.underlying T = some (.slice e) → P.info? e = some inf → inf.size = 1 → inf.zero = some z → inf.bytes ≤ 32 → z.oneCell' = true →
        (iLe 0 m && iEq m m' && capB m.toNat) = true → cells = List.replicate m.toNat z → (∀ O' w' v', SlO O' w' (.ow t none) e v' cells → VC E O' w' t v' ct) →
        u = [(.slot t, .v (.rf t)), (.tok t, .t 0 ct)] → OpOK E n P G s a w o u := by
      intro e inf z ct cells h1 h3 h4 h5 h6 hz hg hcells hcell hu'
      simp only [Bool.and_eq_true, iLe_iff, iEq_iff] at hg
      obtain ⟨⟨g1, g2⟩, g3⟩ := hg
      subst g2
      have g4 := capB_le g3
      have hm : (m.toNat : Int) = m := Int.toNat_of_nonneg g1
      have hr := run_make (P := P) w T _ inf _ h1 h3 h5 kl kc m m g1 (Int.le_refl _) (by
        have : (inf.bytes : Int) * m ≤ 32 * 4398046511104 := Int.mul_le_mul (by omega) (by omega) g1 (by omega)
        omega) (by omega)
      have hcs : madeCells z.cells (m.toNat * inf.size) = cells.toArray := by
        rw [h4, Nat.mul_one, hcells]
        apply Array.ext
        · simp [madeCells]
        · intro i hi1 hi2
          simp [madeCells, cells_one hz, Nat.mod_one]
      have hlen : cells.length = m.toNat := by rw [hcells]; simp
      rw [hcs] at hr
      subst hu'
      refine made_step R hdst ht (hfr t 0 ct (by simp) (Nat.lt_of_lt_of_le ht hn)) (cells := cells) (by rw [hlen]; unfold maxLen; omega) ?_ hcell
      rw [hlen]
      exact exec_makeSlice ho (by rw [hl, hc]; exact hr)
    split at hu
    · rename_i k e hk
      obtain ⟨hg, hu⟩ := hu
      rw [hk] at hT
      obtain ⟨h1, h2, _, inf, h3, h4, h5, h6⟩ := hT
      subst h2
      exact fin _ inf _ (.ints k (List.replicate m.toNat 0)) (vints k (List.replicate m.toNat 0)) h1 h3 h4 h5 h6 rfl hg (by simp [vints]) (fun O' w' v' h => h) hu
    · rename_i e hk
      obtain ⟨hg, hu⟩ := hu
      rw [hk] at hT
      obtain ⟨h1, h2, _, inf, h3, h4, h5, h6⟩ := hT
      subst h2
      exact fin _ inf _ (.strs (List.replicate m.toNat ⟨#[]⟩)) (vstrs (List.replicate m.toNat ⟨#[]⟩)) h1 h3 h4 h5 h6 rfl hg (by simp [vstrs]) (fun O' w' v' h => h) hu
    · rename_i e hk
      obtain ⟨hg, hu⟩ := hu
      rw [hk] at hT
      obtain ⟨h1, h2, _, inf, h3, h4, h5, h6⟩ := hT
      subst h2
      refine fin _ inf _ (.rows true (List.replicate m.toNat [])) (List.replicate m.toNat (.slice none 0 0)) h1 h3 h4 h5 h6 rfl hg rfl (fun O' w' v' h => ⟨_, h, by simp, fun j x xs hh hx => ⟨fun _ => ?_, fun e => by cases e⟩⟩) hu
      have e1 : x = .slice none 0 0 := by
        have := List.mem_of_getElem? hh
        exact List.eq_of_mem_replicate this
      have e2 : xs = [] := by
        have := List.mem_of_getElem? hx
        exact List.eq_of_mem_replicate this
      subst e1; subst e2
      exact ⟨⟨rfl, .inl ⟨rfl, rfl⟩⟩, fun g hg => absurd hg (by simp [Value.ownBlock])⟩
    · exact hu.elim

/-! ### Arrays -/
theorem fill_parts {k : IntKind} : ∀ (ps : List (Nat × Operand)) (vs : List VV) (xs ys : List Int) (ρ : Operand → Value), setParts k ps vs xs = some ys → (∀ (j : Nat) (q : Nat × Operand) (c : IntKind) (m : Int), ps[j]? = some q → vs[j]? = some (.sc (.int c m)) → ρ q.2 = .int c m) →
    Instr.fill (fun i => some (i * 1, 1)) (vints k xs).toArray (ps.map fun p => (p.1, ρ p.2)) = some (vints k ys).toArray ∧ ys.length = xs.length := by
  intro ps
  induction ps with
  | nil =>
    intro vs xs ys ρ h hv
    cases vs with
    | nil => simp [setParts] at h; subst h; exact ⟨rfl, rfl⟩
    | cons v vs => simp [setParts] at h
  | cons p ps ih =>
    intro vs xs ys ρ h hv
    obtain ⟨i, x⟩ := p
    cases vs with
    | nil => simp [setParts] at h
    | cons v vs =>
      cases v with
      | sc y =>
       cases y with
       | int c m =>
        simp only [setParts] at h
        have hρ : ρ x = .int c m := hv 0 (i, x) c m rfl rfl
        cases hb : (decide (c = k) && Nat.blt i xs.length) with
        | false => rw [hb] at h; cases h
        | true =>
          rw [hb] at h
          simp only [Bool.and_eq_true, decide_eq_true_eq, Nat.blt_eq] at hb
          obtain ⟨rfl, hi⟩ := hb
          obtain ⟨r1, r2⟩ := ih vs (xs.set i m) ys ρ h (fun j q c' m' h1 h2 => hv (j + 1) q c' m' (by simpa using h1) (by simpa using h2))
          refine ⟨?_, by rw [r2]; simp⟩
          simp only [List.map_cons, Instr.fill, hρ, cells_one (v := Value.int c m) rfl, Nat.mul_one]
          have hif : (decide ((#[Value.int c m] : Array Value).size ≠ 1) || decide (i + (#[Value.int c m] : Array Value).size > (vints c xs).toArray.size)) = false := by simp [vints]; omega
          rw [hif]
          simp only [Bool.false_eq_true, if_false]
          have e : (#[Value.int c m] : Array Value).zipIdx.foldl (fun cs (x : Value × Nat) => cs.setIfInBounds (i + x.2) x.1) (vints c xs).toArray = (vints c (xs.set i m)).toArray := by
            simp [Array.zipIdx, vints, List.map_set]
          rw [e]
          simpa using r1
       | _ => simp [setParts] at h
      | _ => simp [setParts] at h

theorem run_build_arr {T e : TypeId} {k : IntKind} {m : Nat} {i j : TypeInfo} (ht : P.underlying T = some (.array m e)) (hi : P.info? T = some i) (hz : i.zero = some (.agg (vints k (List.replicate m 0)).toArray)) (hj : P.info? e = some j) (hs : j.size = 1)
    {ps : Array (Nat × Value)} {ys : List Int} (hf : Instr.fill (fun i => some (i * 1, 1)) (vints k (List.replicate m 0)).toArray ps.toList = some (vints k ys).toArray) : (Instr.build T ps).run P w = .ok (.agg (vints k ys).toArray) w := by
  have e1 : (Value.agg (vints k (List.replicate m 0)).toArray).cells = (vints k (List.replicate m 0)).toArray := rfl
  simp only [Nat.mul_one] at hf
  simp [Instr.build, zeroValue, typeInfo, hi, hz, run_underlying ht, sizeOf, hj, hs, e1, hf]

theorem build_ok (hK : TyOK P K E) (R : Rel E n G s a w) {T : TypeId} {ps : Array (Nat × Operand)} (ho : o.op = .build T ps) (hd : dstOk n o.dst = true) (hu : Runs CR s (vop K o) u) : OpOK E n P G s a w o u := by
  simp only [vop, ho] at hu
  unfold buildOp at hu
  obtain ⟨vs, hl, hv, hu⟩ := runs_opds hu
  have hV := vals_parts R (ps := ps.toList) (by simpa using hl) hv
  have hT := hK T
  split at hu
  · rename_i k m hk
    rw [hk] at hT
    obtain ⟨e, h1, ⟨i, h2, h3, h4⟩, h5, j, h6, h7⟩ := hT
    split at hu
    · rename_i ys hys
      obtain ⟨r1, r2⟩ := fill_parts ps.toList vs _ ys a.eval hys (fun j q c m hq hvj => hV j q _ hq hvj)
      refine put_ok R hd (v := .agg (vints k ys).toArray) (x := .sc (.arr k m ys)) (exec_build ho ?_) ⟨rfl, by rw [r2]; simp⟩ hu
      refine run_build_arr h1 h2 h4 h6 h7 ?_
      simpa using r1
    · exact hu.elim
  · exact hu.elim

end
end Go.Tm
