/- The T-machine: reading operations. -/
import Derived.Test.YtmcldnoofgkidaaTm5
set_option linter.unusedVariables false
set_option linter.unusedSimpArgs false
namespace Go.Tm
open Go.RowKit

def aggD : TypeDesc → Bool
  | .struct _ => true
  | .array _ _ => true
  | _ => false

section
variable {P : Program} {w : World} {ρ : Operand → Value} {o : Oper}

theorem exec_lenS {x : Operand} {z : ByteArray} {T : TypeId} {as : Array TypeId} (ho : o.op = .call { callee := .builtin .len, args := #[x], argTypes := as }) (hT : as[0]? = some T) (hx : ρ x = .string z) (hun : P.underlying T = some .string) :
    (execOp ρ o).run P w = .ok (.value (.int .i64 z.size)) w := by
  simp [execOp, ho, resolve, invoke, builtin, Builtin.len_, hT, hx, run_underlying hun, goInt, go_sem]
theorem exec_lenL {x : Operand} {ad : Option Addr} {m cap : Nat} {T e : TypeId} {as : Array TypeId} (ho : o.op = .call { callee := .builtin .len, args := #[x], argTypes := as }) (hT : as[0]? = some T) (hx : ρ x = .slice ad m cap) (hun : P.underlying T = some (.slice e)) :
    (execOp ρ o).run P w = .ok (.value (.int .i64 m)) w := by
  simp [execOp, ho, resolve, invoke, builtin, Builtin.len_, hT, hx, run_underlying hun, goInt, go_sem]

theorem exec_indexS {x i : Operand} {z : ByteArray} {k : IntKind} {m : Int} {T : TypeId} (ho : o.op = .index T x i) (hx : ρ x = .string z) (hi : ρ i = .int k m) (hun : P.underlying T = some .string) (h0 : 0 ≤ m) (h1 : m < z.size) :
    (execOp ρ o).run P w = .ok (.value (.int .u8 ((z.data.toList.getD m.toNat 0).toNat : Int))) w := by
  have hlt : m.toNat < z.size := by omega
  have e : z[m.toNat]? = some (z[m.toNat]'hlt) := by simp [hlt]
  have e2 : z.data.toList.getD m.toNat 0 = z[m.toNat]'hlt := by
    have hl : m.toNat < z.data.toList.length := by simpa using hlt
    rw [List.getD_eq_getElem?_getD, List.getElem?_eq_getElem hl]
    simp
    rfl
  rw [e2]
  simp [execOp, ho, hx, hi, Instr.index, asIntOf, run_underlying hun, h0, e, go_sem]
theorem exec_indexA {x i : Operand} {cs : Array Value} {k : IntKind} {m : Int} {T e : TypeId} {len : Nat} {inf : TypeInfo} {d : TypeDesc} {v : Value} (ho : o.op = .index T x i) (hx : ρ x = .agg cs) (hi : ρ i = .int k m) (hun : P.underlying T = some (.array len e)) (hinf : P.info? e = some inf) (hs : inf.size = 1) (hd : P.underlying e = some d) (hna : aggD d = false) (h0 : 0 ≤ m) (h1 : m < len) (hv : cs[m.toNat]? = some v) :
    (execOp ρ o).run P w = .ok (.value v) w := by
  have hagg : (isAgg e).run P w = .ok false w := by
    unfold isAgg
    cases d <;> simp_all [run_underlying hd, aggD, go_sem]
  simp [execOp, ho, hx, hi, Instr.index, asIntOf, run_underlying hun, h0, h1, sizeOf, typeInfo, hinf, hs, part, hagg, hv, go_sem]

theorem exec_indexAddrL {x i : Operand} {ad : Addr} {l cap : Nat} {k : IntKind} {m : Int} {T e : TypeId} {inf : TypeInfo} (ho : o.op = .indexAddr T x i) (hx : ρ x = .slice (some ad) l cap) (hi : ρ i = .int k m) (hun : P.underlying T = some (.slice e)) (hinf : P.info? e = some inf) (hs : inf.size = 1) (h0 : 0 ≤ m) (h1 : m < l) :
    (execOp ρ o).run P w = .ok (.value (.pointer (some (ad.add m.toNat)))) w := by
  simp [execOp, ho, hx, hi, Instr.indexAt, asIntOf, run_underlying hun, h0, h1, sizeOf, typeInfo, hinf, hs, go_sem]
theorem exec_indexAddrA {x i : Operand} {ad : Addr} {l : Nat} {k : IntKind} {m : Int} {T e : TypeId} {inf : TypeInfo} (ho : o.op = .indexAddr T x i) (hx : ρ x = .pointer (some ad)) (hi : ρ i = .int k m) (hun : P.underlying T = some (.array l e)) (hinf : P.info? e = some inf) (hs : inf.size = 1) (h0 : 0 ≤ m) (h1 : m < l) :
    (execOp ρ o).run P w = .ok (.value (.pointer (some (ad.add m.toNat)))) w := by
  simp [execOp, ho, hx, hi, Instr.indexAt, Instr.sureAddr, asIntOf, run_underlying hun, h0, h1, sizeOf, typeInfo, hinf, hs, go_sem]

theorem exec_load1 {T : TypeId} {x : Operand} {ad : Addr} {v : Value} {d : TypeDesc} (ho : o.op = .load T x) (hx : ρ x = .pointer (some ad)) (hd : P.underlying T = some d) (hna : aggD d = false) (hc : w.cell? ad = some v) :
    (execOp ρ o).run P w = .ok (.value v) w := by
  have hagg : (isAgg T).run P w = .ok false w := by
    unfold isAgg
    cases d <;> simp_all [run_underlying hd, aggD, go_sem]
  simp [execOp, ho, hx, Instr.loadAt, Instr.sureAddr, loadVar, hagg, hc, go_sem]

theorem run_loadCells_row (g : Nat) (cur : Array Value) (e : TypeId) (fr : Nat × Nat) (hg : w.heap[g]? = some (.cells cur e fr)) : (loadCells ⟨g, 0, none⟩ cur.size).run P w = .ok cur w := by
  have key : ∀ (m i : Nat) (acc : Array Value), i + m = cur.size → acc = (cur.toList.take i).toArray → (loadCellsFrom ⟨g, 0, none⟩ i m acc).run P w = .ok cur w := by
    intro m
    induction m with
    | zero =>
      intro i acc hi ha
      have : i = cur.size := by omega
      subst this
      subst ha
      rw [List.take_of_length_le (by simp)]
      simp [loadCellsFrom, go_sem]
    | succ m ih =>
      intro i acc hi ha
      have hlt : i < cur.size := by omega
      have hc : w.cell? ⟨g, i, none⟩ = some cur[i] := by simp [World.cell?, hg, hlt]
      simp only [loadCellsFrom, Sem.run_bind, add0]
      simp only [load, Sem.run, hc, Sem.run_pure, Result.andThen_ok]
      refine ih (i + 1) _ (by omega) ?_
      subst ha
      apply Array.ext'
      simp [List.take_add_one, hlt]
  exact key cur.size 0 #[] (by omega) (by simp)

theorem exec_loadA {T e : TypeId} {x : Operand} {g : Nat} {cur : Array Value} {len : Nat} {inf : TypeInfo} {el : TypeId} {fr : Nat × Nat} (ho : o.op = .load T x) (hx : ρ x = .pointer (some ⟨g, 0, none⟩)) (hd : P.underlying T = some (.array len e)) (hinf : P.info? T = some inf) (hs : inf.size = cur.size) (hg : w.heap[g]? = some (.cells cur el fr)) :
    (execOp ρ o).run P w = .ok (.value (.agg cur)) w := by
  have hagg : (isAgg T).run P w = .ok true w := by
    unfold isAgg
    simp [run_underlying hd, go_sem]
  have hl := run_loadCells_row (P := P) (w := w) g cur el fr hg
  unfold loadCells at hl
  simp [execOp, ho, hx, Instr.loadAt, Instr.sureAddr, loadVar, hagg, sizeOf, typeInfo, hinf, hs, hl, go_sem]

/-- A bound of a cut: not there, or a number. -/
def BndV (ρ : Operand → Value) (x : Option Operand) (d l : Int) : Prop := (x = none ∧ l = d) ∨ ∃ y k, x = some y ∧ ρ y = .int k l

theorem exec_sliceS {T : TypeId} {x : Operand} {lo hi : Option Operand} {z : ByteArray} {l h : Int} (ho : o.op = .slice T x lo hi none) (hx : ρ x = .string z) (hun : P.underlying T = some .string)
    (hlo : BndV ρ lo 0 l) (hhi : BndV ρ hi z.size h) (h0 : 0 ≤ l) (h1 : l ≤ h) (h2 : h ≤ z.size) : (execOp ρ o).run P w = .ok (.value (.string (z.extract l.toNat h.toNat))) w := by
  have hh : 0 ≤ h := by omega
  have e1 : ((h.toNat : Nat) : Int) = h := by omega
  rcases hlo with ⟨rfl, rfl⟩ | ⟨y, k, rfl, hy⟩ <;> rcases hhi with ⟨rfl, rfl⟩ | ⟨y', k', rfl, hy'⟩
  · simp [execOp, ho, hx, Instr.sliceAt, Instr.slice, Instr.sliceBounds, Instr.sliceBound, asIntOf, run_underlying hun, go_sem]
  · simp [execOp, ho, hx, hy', Instr.sliceAt, Instr.slice, Instr.sliceBounds, Instr.sliceBound, asIntOf, run_underlying hun, h2, hh, go_sem]
  · simp [execOp, ho, hx, hy, Instr.sliceAt, Instr.slice, Instr.sliceBounds, Instr.sliceBound, asIntOf, run_underlying hun, h0, h1, go_sem]
  · simp [execOp, ho, hx, hy, hy', Instr.sliceAt, Instr.slice, Instr.sliceBounds, Instr.sliceBound, asIntOf, run_underlying hun, h0, h1, h2, hh, e1, go_sem]

theorem exec_sliceL {T e : TypeId} {x : Operand} {lo hi : Option Operand} {ad : Option Addr} {m cap : Nat} {l h : Int} {inf : TypeInfo} (ho : o.op = .slice T x lo hi none) (hx : ρ x = .slice ad m cap) (hun : P.underlying T = some (.slice e)) (hinf : P.info? e = some inf) (hs : inf.size = 1) (hm : m ≤ cap)
    (hlo : BndV ρ lo 0 l) (hhi : BndV ρ hi m h) (h0 : 0 ≤ l) (h1 : l ≤ h) (h2 : h ≤ m) : (execOp ρ o).run P w = .ok (.value (.slice (if cap = l.toNat then ad else ad.map (·.add l.toNat)) (h.toNat - l.toNat) (cap - l.toNat))) w := by
  have hh : 0 ≤ h := by omega
  have e1 : ((h.toNat : Nat) : Int) = h := by omega
  have h3 : h ≤ cap := by omega
  rcases hlo with ⟨rfl, rfl⟩ | ⟨y, k, rfl, hy⟩ <;> rcases hhi with ⟨rfl, rfl⟩ | ⟨y', k', rfl, hy'⟩
  · simp [execOp, ho, hx, Instr.sliceAt, Instr.slice, Instr.sliceBounds, Instr.sliceBound, asIntOf, run_underlying hun, sizeOf, typeInfo, hinf, hs, go_sem]
  · simp [execOp, ho, hx, hy', Instr.sliceAt, Instr.slice, Instr.sliceBounds, Instr.sliceBound, asIntOf, run_underlying hun, h3, hh, sizeOf, typeInfo, hinf, hs, go_sem]
  · simp [execOp, ho, hx, hy, Instr.sliceAt, Instr.slice, Instr.sliceBounds, Instr.sliceBound, asIntOf, run_underlying hun, h0, h1, sizeOf, typeInfo, hinf, hs, go_sem]
  · simp [execOp, ho, hx, hy, hy', Instr.sliceAt, Instr.slice, Instr.sliceBounds, Instr.sliceBound, asIntOf, run_underlying hun, h0, h1, h3, hh, e1, sizeOf, typeInfo, hinf, hs, go_sem]
end
end Go.Tm
namespace Go.Tm
open Go.RowKit
section
variable {P : Program} {K : Kf} {E : El} {n : Nat} {G : Gh} {s : St} {a : Act} {w : World} {CR : CRel} {o : Oper} {u : St}

theorem slTy (hK : TyOK P K E) {T : TypeId} (h : (K T).isSl = true) : ∃ e inf, P.underlying T = some (.slice e) ∧ P.info? e = some inf ∧ inf.size = 1 ∧ inf.bytes ≤ 32 := by
  have hT := hK T
  cases hk : K T with
  | slI k e => rw [hk] at hT; obtain ⟨h1, _, _, i, h2, h3, _, h4⟩ := hT; exact ⟨e, i, h1, h2, h3, h4⟩
  | slS e => rw [hk] at hT; obtain ⟨h1, _, _, i, h2, h3, _, h4⟩ := hT; exact ⟨e, i, h1, h2, h3, h4⟩
  | slR e => rw [hk] at hT; obtain ⟨h1, _, _, i, h2, h3, _, h4⟩ := hT; exact ⟨e, i, h1, h2, h3, h4⟩
  | _ => rw [hk] at h; cases h

theorem oneTy (hK : TyOK P K E) {T : TypeId} (h : (K T).one = true) : ∃ d, P.underlying T = some d ∧ aggD d = false ∧ ∃ i, P.info? T = some i ∧ i.size = 1 := by
  have hT := hK T
  cases hk : K T with
  | int k => rw [hk] at hT; obtain ⟨h1, i, h2, h3, _⟩ := hT; exact ⟨_, h1, rfl, i, h2, h3⟩
  | bool => rw [hk] at hT; obtain ⟨h1, i, h2, h3, _⟩ := hT; exact ⟨_, h1, rfl, i, h2, h3⟩
  | str => rw [hk] at hT; obtain ⟨h1, i, h2, h3, _⟩ := hT; exact ⟨_, h1, rfl, i, h2, h3⟩
  | slI k e => rw [hk] at hT; obtain ⟨h1, _, ⟨i, h2, h3, _⟩, _⟩ := hT; exact ⟨_, h1, rfl, i, h2, h3⟩
  | slS e => rw [hk] at hT; obtain ⟨h1, _, ⟨i, h2, h3, _⟩, _⟩ := hT; exact ⟨_, h1, rfl, i, h2, h3⟩
  | slR e => rw [hk] at hT; obtain ⟨h1, _, ⟨i, h2, h3, _⟩, _⟩ := hT; exact ⟨_, h1, rfl, i, h2, h3⟩
  | fn => rw [hk] at hT; obtain ⟨⟨x, y, z, h1⟩, i, h2, h3, _⟩ := hT; exact ⟨_, h1, rfl, i, h2, h3⟩
  | _ => rw [hk] at h; cases h

theorem runs_asI {val : Value} {v : VV} (hv : VR G s w val v) {k : Int → Rd} (h : Runs CR s (asI v k) u) : ∃ c m, val = .int c m ∧ Runs CR s (k m) u := by
  unfold asI at h
  split at h
  · rename_i c m; exact ⟨c, m, hv, h⟩
  · exact h.elim

theorem runs_bnd (R : Rel E n G s a w) {x : Option Operand} {d : Int} {k : Int → Rd} (h : Runs CR s (bnd x d k) u) : ∃ l, BndV a.eval x d l ∧ Runs CR s (k l) u := by
  cases x with
  | none => exact ⟨d, .inl ⟨rfl, rfl⟩, h⟩
  | some y =>
    simp only [bnd] at h
    obtain ⟨v, hv, h⟩ := runs_opd h
    obtain ⟨c, m, h1, h2⟩ := runs_asI (opv_ok R hv) h
    exact ⟨m, .inr ⟨y, c, rfl, h1⟩, h2⟩

theorem inB_iff {m : Int} {l : Nat} (h : inB m l = true) : 0 ≤ m ∧ m < l := by
  unfold inB at h
  split at h
  · rw [Nat.blt_eq] at h; exact ⟨Int.natCast_nonneg _, Int.ofNat_lt.2 h⟩
  · cases h

theorem len_ok (hK : TyOK P K E) (R : Rel E n G s a w) {x : Operand} {as : Array TypeId} (ho : o.op = .call { callee := .builtin .len, args := #[x], argTypes := as }) (hd : dstOk n o.dst = true) (hu : Runs CR s (vop K o) u) : OpOK E n P G s a w o u := by
  simp only [vop, ho] at hu
  cases hdst : o.dst with
  | none => rw [hdst] at hu; exact hu.elim
  | some t =>
    rw [hdst] at hu
    dsimp only at hu
    split at hu
    · rename_i T has'
      have has : as[0]? = some T := by
        have : as = #[T] := by simpa using congrArg List.toArray has'
        rw [this]; rfl
      obtain ⟨v, hv, hu⟩ := runs_opd hu
      obtain ⟨hty, hu⟩ := hu
      have hx := opv_ok R hv
      obtain ⟨m, hm, hu⟩ := runs_lenOf R hx hu
      have hu' : Runs CR s (put o (sint m)) u := hu
      rcases hm with ⟨z, rfl, hz, rfl⟩ | ⟨hns, hml, ad, cap, hz, hc⟩
      · have hty' : (K T).isStr = true := hty
        have hT := hK T
        cases hk : K T with
        | str => rw [hk] at hT; exact put_ok R hd (exec_lenS ho has hz hT.1) (by rfl) hu'
        | _ => rw [hk] at hty'; cases hty'
      · have hty' : (K T).isSl = true := by
          cases v with
          | sc y => cases y with
            | str z => exact absurd rfl (hns z)
            | _ => exact hty
          | _ => exact hty
        obtain ⟨e, inf, h1, _⟩ := slTy hK hty'
        exact put_ok R hd (exec_lenL ho has hz h1) (by rfl) hu'
    · exact hu.elim

theorem index_ok (hK : TyOK P K E) (R : Rel E n G s a w) {T : TypeId} {x i : Operand} (ho : o.op = .index T x i) (hd : dstOk n o.dst = true) (hu : Runs CR s (vop K o) u) : OpOK E n P G s a w o u := by
  simp only [vop, ho] at hu
  obtain ⟨v, hv, hu⟩ := runs_opd hu
  obtain ⟨v', hv', hu⟩ := runs_opd hu
  have hx := opv_ok R hv
  obtain ⟨c, m, hi, hu⟩ := runs_asI (opv_ok R hv') hu
  have hT := hK T
  cases hk : K T with
  | str =>
    rw [hk] at hT hu
    cases v with
    | sc v => cases v with
      | str z =>
        obtain ⟨hb, hu⟩ := hu
        obtain ⟨b1, b2⟩ := inB_iff hb
        exact put_ok R hd (exec_indexS ho hx hi hT.1 b1 b2) (by rfl) hu
      | _ => exact hu.elim
    | _ => exact hu.elim
  | arr k' m' =>
    rw [hk] at hT hu
    cases v with
    | sc v => cases v with
      | arr k l xs =>
        obtain ⟨hl, hb, hu⟩ := hu
        have hl' : l = m' := by simpa using hl
        subst hl'
        obtain ⟨b1, b2⟩ := inB_iff hb
        obtain ⟨e, h1, _, h2, i', h3, h4⟩ := hT
        obtain ⟨x1, x2⟩ := hx
        have hlt : m.toNat < xs.length := by omega
        refine put_ok R hd (exec_indexA (v := .int k (xs.getD m.toNat 0)) ho x1 hi h1 h3 h4 h2 rfl b1 b2 ?_) (by rfl) hu
        simp [vints, List.getElem?_eq_getElem hlt, List.getD_eq_getElem?_getD]
      | _ => exact hu.elim
    | _ => exact hu.elim
  | _ => rw [hk] at hu; exact hu.elim

theorem indexAddr_ok (hK : TyOK P K E) (R : Rel E n G s a w) {T : TypeId} {x i : Operand} (ho : o.op = .indexAddr T x i) (hd : dstOk n o.dst = true) (hu : Runs CR s (vop K o) u) : OpOK E n P G s a w o u := by
  simp only [vop, ho] at hu
  obtain ⟨v, hv, hu⟩ := runs_opd hu
  obtain ⟨v', hv', hu⟩ := runs_opd hu
  have hx := opv_ok R hv
  obtain ⟨c, m, hi, hu⟩ := runs_asI (opv_ok R hv') hu
  unfold indexAddrOp at hu
  -- an imm slice
  have imm : ∀ {cells : List Value} {x' : PV} {dft : Value}, (K T).isSl = true → SlI G.O w (a.eval x) cells → inB m cells.length = true → VP G.O w (cells.getD m.toNat dft) x' → Runs CR s (put o (.ai x')) u → OpOK E n P G s a w o u := by
    intro cells x' dft hsl hc hb hvp hu
    obtain ⟨b1, b2⟩ := inB_iff hb
    obtain ⟨e, inf, t1, t2, t3, _⟩ := slTy hK hsl
    obtain ⟨ad, cap, e1, c1, c2, c3⟩ := hc
    have hlt : m.toNat < cells.length := by omega
    have hne : cells ≠ [] := by rintro rfl; simp at hlt
    obtain ⟨ad', rfl, i1, i2⟩ := c3 hne
    have hcell := i2 m.toNat cells[m.toNat] (List.getElem?_eq_getElem hlt)
    have e2 : cells.getD m.toNat dft = cells[m.toNat] := by simp [List.getD_eq_getElem?_getD, List.getElem?_eq_getElem hlt]
    rw [e2] at hvp
    have hb : (ad'.add m.toNat).block = ad'.block := by unfold Addr.add; split <;> rfl
    refine put_ok R hd (x := .ai x') (exec_indexAddrL ho e1 hi t1 t2 t3 b1 b2) ?_ hu
    exact ⟨_, _, rfl, by rw [hb]; exact i1, hcell, hvp⟩
  have ints : ∀ {k : IntKind} {xs : List Int}, (K T).isSl = true → SlI G.O w (a.eval x) (vints k xs) → inB m xs.length = true → Runs CR s (put o (.ai (.int k (xs.getD m.toNat 0)))) u → OpOK E n P G s a w o u := by
    intro k xs hsl hc hb hu
    obtain ⟨b1, b2⟩ := inB_iff hb
    have hlt : m.toNat < xs.length := by omega
    refine imm (dft := .int k 0) hsl hc (by simpa [vints] using hb) ?_ hu
    show _ = Value.int k _
    simp [vints, List.getD_eq_getElem?_getD, List.getElem?_eq_getElem hlt]
  have strs : ∀ {xs : List ByteArray}, (K T).isSl = true → SlI G.O w (a.eval x) (vstrs xs) → inB m xs.length = true → Runs CR s (put o (.ai (.str (xs.getD m.toNat ⟨#[]⟩)))) u → OpOK E n P G s a w o u := by
    intro xs hsl hc hb hu
    obtain ⟨b1, b2⟩ := inB_iff hb
    have hlt : m.toNat < xs.length := by omega
    refine imm (dft := .string ⟨#[]⟩) hsl hc (by simpa [vstrs] using hb) ?_ hu
    show _ = Value.string _
    simp [vstrs, List.getD_eq_getElem?_getD, List.getElem?_eq_getElem hlt]
  have rows : ∀ {xss : List (List Int)}, (K T).isSl = true → VP G.O w (a.eval x) (.rows xss) → inB m xss.length = true → Runs CR s (put o (.ai (.ints .i64 (xss.getD m.toNat [])))) u → OpOK E n P G s a w o u := by
    intro xss hsl hc hb hu
    obtain ⟨b1, b2⟩ := inB_iff hb
    obtain ⟨hs, h1, h2, h3⟩ := hc
    have hlt : m.toNat < xss.length := by omega
    have hlt' : m.toNat < hs.length := by omega
    refine imm (dft := .bool false) hsl h1 (by rw [h2]; exact hb) ?_ hu
    have e1 : hs.getD m.toNat (.bool false) = hs[m.toNat] := by simp [List.getD_eq_getElem?_getD, List.getElem?_eq_getElem hlt']
    have e2 : xss.getD m.toNat [] = xss[m.toNat] := by simp [List.getD_eq_getElem?_getD, List.getElem?_eq_getElem hlt]
    rw [e1, e2]
    exact h3 m.toNat _ _ (List.getElem?_eq_getElem hlt') (List.getElem?_eq_getElem hlt)
  cases v with
  | sc v =>
    cases v with
    | ints k xs =>
      simp only [Bool.or_false] at hu
      cases hsl : (K T).isSl with
      | false => rw [hsl] at hu; exact hu.elim
      | true => rw [hsl] at hu; obtain ⟨hb, hu⟩ := hu; exact ints hsl hx hb hu
    | strs xs =>
      simp only [Bool.or_false] at hu
      cases hsl : (K T).isSl with
      | false => rw [hsl] at hu; exact hu.elim
      | true => rw [hsl] at hu; obtain ⟨hb, hu⟩ := hu; exact strs hsl hx hb hu
    | rows xs =>
      simp only [Bool.or_false] at hu
      cases hsl : (K T).isSl with
      | false => rw [hsl] at hu; exact hu.elim
      | true => rw [hsl] at hu; obtain ⟨hb, hu⟩ := hu; exact rows hsl hx hb hu
    | _ =>
      simp only [Bool.or_false] at hu
      cases hsl : (K T).isSl <;> (rw [hsl] at hu; exact hu.elim)
  | rf τ =>
    simp only [Bool.or_false] at hu
    cases hsl : (K T).isSl with
    | false => rw [hsl] at hu; exact hu.elim
    | true =>
      rw [hsl] at hu
      have hv' : (s.get (.tok τ)).live = true → a.eval x = G.H τ := hx.2
      simp only [cond_true, Runs] at hu
      split at hu
      · rename_i iv ct hc
        obtain ⟨hb, hu⟩ := hu
        obtain ⟨b1, b2⟩ := inB_iff hb
        have hvv := hv' (by rw [hc]; rfl)
        obtain ⟨e, inf, t1, t2, t3, _⟩ := slTy hK hsl
        obtain ⟨q1, ad, cap, q2, q3⟩ := (R.toks τ iv ct hc).len
        have hne : ∃ ad', ad = some ad' := by
          have hlt : m.toNat < ct.len := by omega
          cases ct with
          | ints k xs =>
            simp only [Ct.len] at hlt
            obtain ⟨g, cap', e1, _⟩ := SlO.cell (R.toks τ iv _ hc) (i := m.toNat) (u := .int k xs[m.toNat]) (by simp [vints, List.getElem?_eq_getElem hlt])
            rw [q2] at e1; injection e1 with e1; exact ⟨_, e1⟩
          | strs xs =>
            simp only [Ct.len] at hlt
            obtain ⟨g, cap', e1, _⟩ := SlO.cell (R.toks τ iv _ hc) (i := m.toNat) (u := .string xs[m.toNat]) (by simp [vstrs, List.getElem?_eq_getElem hlt])
            rw [q2] at e1; injection e1 with e1; exact ⟨_, e1⟩
          | rows own xss =>
            simp only [Ct.len] at hlt
            obtain ⟨hs, h1, h2, _⟩ := R.toks τ iv _ hc
            have hlt' : m.toNat < hs.length := by omega
            obtain ⟨g, cap', e1, _⟩ := h1.cell (List.getElem?_eq_getElem hlt')
            rw [q2] at e1; injection e1 with e1; exact ⟨_, e1⟩
          | hole k xss =>
            simp only [Ct.len] at hlt
            obtain ⟨hs, h1, h2, _⟩ := R.toks τ iv _ hc
            have hlt' : m.toNat < hs.length := by omega
            obtain ⟨g, cap', e1, _⟩ := h1.cell (List.getElem?_eq_getElem hlt')
            rw [q2] at e1; injection e1 with e1; exact ⟨_, e1⟩
        obtain ⟨ad', rfl⟩ := hne
        rw [q2] at hvv
        refine put_ok R hd (exec_indexAddrL ho hvv hi t1 t2 t3 b1 b2) ?_ hu
        refine ⟨trivial, fun iv' c' hc' => ?_⟩
        rw [hc] at hc'
        injection hc' with _ e2
        subst e2
        exact ⟨by omega, by rw [q2]; rfl⟩
      · rename_i k xs hc
        obtain ⟨hb, hu⟩ := hu
        have hvv := hv' (by rw [hc]; rfl)
        exact ints hsl (by rw [hvv]; exact R.froz τ _ hc) hb hu
      · rename_i xs hc
        obtain ⟨hb, hu⟩ := hu
        have hvv := hv' (by rw [hc]; rfl)
        exact strs hsl (by rw [hvv]; exact R.froz τ _ hc) hb hu
      · rename_i xs hc
        obtain ⟨hb, hu⟩ := hu
        have hvv := hv' (by rw [hc]; rfl)
        exact rows hsl (by rw [hvv]; exact R.froz τ _ hc) hb hu
      · exact hu.elim
  | rw τ lo l =>
    simp only [Bool.or_false] at hu
    cases hsl : (K T).isSl with
    | false => rw [hsl] at hu; exact hu.elim
    | true =>
      rw [hsl] at hu
      have hv' : (s.get (.tok τ)).live = true → IsWin (G.H τ) (a.eval x) lo l := hx.2
      simp only [cond_true, Runs] at hu
      split at hu
      · rename_i iv ct hc
        obtain ⟨hb, hu⟩ := hu
        obtain ⟨b1, b2⟩ := inB_iff hb
        obtain ⟨e, inf, t1, t2, t3, _⟩ := slTy hK hsl
        obtain ⟨ad, l', cap, a', q0, q1, q2, q3, q4⟩ := hv' (by rw [hc]; rfl)
        have hpos : 0 < l := by omega
        have := q4 (.inl hpos)
        subst this
        obtain ⟨r1, ad2, cap2, r2, r3⟩ := (R.toks τ iv ct hc).len
        rw [r2] at q0
        injection q0 with p1 p2 p3
        subst p1; subst p2; subst p3
        have hne : ∃ ad', ad2 = some ad' := by
          cases ad2 with
          | some z => exact ⟨z, rfl⟩
          | none =>
            have hlt : lo + m.toNat < ct.len := by omega
            cases ct with
            | ints k xs =>
              simp only [Ct.len] at hlt
              obtain ⟨g, cap', e1, _⟩ := SlO.cell (R.toks τ iv _ hc) (i := lo + m.toNat) (u := .int k xs[lo + m.toNat]) (by simp [vints, List.getElem?_eq_getElem hlt])
              rw [r2] at e1; injection e1 with e1; cases e1
            | strs xs =>
              simp only [Ct.len] at hlt
              obtain ⟨g, cap', e1, _⟩ := SlO.cell (R.toks τ iv _ hc) (i := lo + m.toNat) (u := .string xs[lo + m.toNat]) (by simp [vstrs, List.getElem?_eq_getElem hlt])
              rw [r2] at e1; injection e1 with e1; cases e1
            | rows own xss =>
              simp only [Ct.len] at hlt
              obtain ⟨hs, h1, h2, _⟩ := R.toks τ iv _ hc
              have hlt' : lo + m.toNat < hs.length := by omega
              obtain ⟨g, cap', e1, _⟩ := h1.cell (List.getElem?_eq_getElem hlt')
              rw [r2] at e1; injection e1 with e1; cases e1
            | hole k xss =>
              simp only [Ct.len] at hlt
              obtain ⟨hs, h1, h2, _⟩ := R.toks τ iv _ hc
              have hlt' : lo + m.toNat < hs.length := by omega
              obtain ⟨g, cap', e1, _⟩ := h1.cell (List.getElem?_eq_getElem hlt')
              rw [r2] at e1; injection e1 with e1; cases e1
        obtain ⟨ad', rfl⟩ := hne
        refine put_ok R hd (exec_indexAddrL ho q3 hi t1 t2 t3 b1 b2) ?_ hu
        refine ⟨trivial, fun iv' c' hc' => ?_⟩
        rw [hc] at hc'
        injection hc' with _ e2
        subst e2
        exact ⟨by omega, by rw [r2, add_add]; rfl⟩
      · exact hu.elim
  | ri τ iv k =>
    simp only [Bool.or_false] at hu
    cases hsl : (K T).isSl with
    | false => rw [hsl] at hu; exact hu.elim
    | true =>
      rw [hsl] at hu
      simp only [cond_true, Runs] at hu
      split at hu
      · rename_i iv' xss hc
        obtain ⟨hbe, hb, hu⟩ := hu
        have hbe' : iv = iv' := by simpa using hbe
        subst hbe'
        obtain ⟨b1, b2⟩ := inB_iff hb
        obtain ⟨l, r1, r2⟩ := (hx.2 _ _ hc).2 rfl
        obtain ⟨s1, s2, s3⟩ := (R.toks τ _ _ hc).inner r1 r2
        have hlt : m.toNat < (xss.getD k []).length := by omega
        obtain ⟨g, cap', e1, _⟩ := SlO.cell s1 (i := m.toNat) (u := .int .i64 (xss.getD k [])[m.toNat]) (by simp [vints, List.getElem?_eq_getElem hlt])
        obtain ⟨e, inf, t1, t2, t3, _⟩ := slTy hK hsl
        have hl : (vints .i64 (xss.getD k [])).length = (xss.getD k []).length := by simp [vints]
        rw [hl] at e1
        refine put_ok R hd (exec_indexAddrL ho e1 hi t1 t2 t3 b1 b2) ?_ hu
        refine ⟨trivial, fun iv' c' hc' => ?_⟩
        rw [hc] at hc'
        injection hc' with e0 e2
        subst e0; subst e2
        exact ⟨Nat.le_refl _, fun _ => ⟨l, _, r1, by omega, r2, by rw [e1]; rfl⟩⟩
      · exact hu.elim
  | pt b =>
    simp only [Bool.or_true, cond_true, Runs] at hu
    split at hu
    · rename_i k l xs hc
      have hT := hK T
      cases hk : K T with
      | arr k' l' =>
        rw [hk] at hT hu
        obtain ⟨hl, hb, hu⟩ := hu
        have hl' : l = l' := by simpa using hl
        subst hl'
        obtain ⟨b1, b2⟩ := inB_iff hb
        obtain ⟨e, h1, _, h2, i', h3, h4⟩ := hT
        exact put_ok R hd (exec_indexAddrA ho hx hi h1 h3 h4 b1 b2) (by exact ⟨by rw [add0], by omega⟩) hu
      | _ => rw [hk] at hu; exact hu.elim
    · exact hu.elim
  | _ =>
    simp only [Bool.or_false] at hu
    cases hsl : (K T).isSl <;> (rw [hsl] at hu; exact hu.elim)
end
end Go.Tm
