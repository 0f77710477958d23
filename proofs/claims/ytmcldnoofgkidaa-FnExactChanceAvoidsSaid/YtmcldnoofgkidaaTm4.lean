/- The T-machine: the operations, one by one (first part). -/
import Derived.Test.YtmcldnoofgkidaaTm3
set_option linter.unusedVariables false
set_option linter.unusedSimpArgs false
namespace Go.Tm
open Go.RowKit

def tyOk (P : Program) (E : El) (T : TypeId) : TK → Prop
  | .int k => P.underlying T = some (.int k) ∧ ∃ i, P.info? T = some i ∧ i.size = 1 ∧ i.zero = some (.int k 0)
  | .bool => P.underlying T = some .bool ∧ ∃ i, P.info? T = some i ∧ i.size = 1 ∧ i.zero = some (.bool false)
  | .str => P.underlying T = some .string ∧ ∃ i, P.info? T = some i ∧ i.size = 1 ∧ i.zero = some (.string ⟨#[]⟩)
  | .slI k e => P.underlying T = some (.slice e) ∧ e = E.eI k ∧ (∃ i, P.info? T = some i ∧ i.size = 1 ∧ i.zero = some (.slice none 0 0)) ∧ ∃ i, P.info? e = some i ∧ i.size = 1 ∧ i.zero = some (.int k 0) ∧ i.bytes ≤ 32
  | .slS e => P.underlying T = some (.slice e) ∧ e = E.eS ∧ (∃ i, P.info? T = some i ∧ i.size = 1 ∧ i.zero = some (.slice none 0 0)) ∧ ∃ i, P.info? e = some i ∧ i.size = 1 ∧ i.zero = some (.string ⟨#[]⟩) ∧ i.bytes ≤ 32
  | .slR e => P.underlying T = some (.slice e) ∧ e = E.eR ∧ (∃ i, P.info? T = some i ∧ i.size = 1 ∧ i.zero = some (.slice none 0 0)) ∧ ∃ i, P.info? e = some i ∧ i.size = 1 ∧ i.zero = some (.slice none 0 0) ∧ i.bytes ≤ 32
  | .arr k n => ∃ e, P.underlying T = some (.array n e) ∧ (∃ i, P.info? T = some i ∧ i.size = n ∧ i.zero = some (.agg (vints k (List.replicate n 0)).toArray)) ∧ P.underlying e = some (.int k) ∧ ∃ i, P.info? e = some i ∧ i.size = 1
  | .fn => (∃ a b c, P.underlying T = some (.func a b c)) ∧ ∃ i, P.info? T = some i ∧ i.size = 1 ∧ i.zero = some .nilFunc
  | .oth => True

def TyOK (P : Program) (K : Kf) (E : El) : Prop := ∀ T, tyOk P E T (K T)

/-! ### The model's operations, over any reading of the operands -/
section
variable {P : Program} {w : World} {ρ : Operand → Value} {o : Oper}
theorem exec_pick {c x y : Operand} {p : Bool} (ho : o.op = .pick c x y) (h : ρ c = .bool p) : (execOp ρ o).run P w = .ok (.value (if p then ρ x else ρ y)) w := by
  simp [execOp, ho, h, asBool, go_sem]
theorem exec_add {T T' : TypeId} {x y : Operand} {k : IntKind} {p q : Int} (ho : o.op = .binOp .add T x y T') (hx : ρ x = .int k p) (hy : ρ y = .int k q) : (execOp ρ o).run P w = .ok (.value (.int k (k.wrap (p + q)))) w := by
  simp [execOp, ho, hx, hy, eqGuard, binOp, Op.intArith, go_sem]
theorem exec_sub {T T' : TypeId} {x y : Operand} {k : IntKind} {p q : Int} (ho : o.op = .binOp .sub T x y T') (hx : ρ x = .int k p) (hy : ρ y = .int k q) : (execOp ρ o).run P w = .ok (.value (.int k (k.wrap (p - q)))) w := by
  simp [execOp, ho, hx, hy, eqGuard, binOp, Op.intArith, go_sem]
theorem exec_mul {T T' : TypeId} {x y : Operand} {k : IntKind} {p q : Int} (ho : o.op = .binOp .mul T x y T') (hx : ρ x = .int k p) (hy : ρ y = .int k q) : (execOp ρ o).run P w = .ok (.value (.int k (k.wrap (p * q)))) w := by
  simp [execOp, ho, hx, hy, eqGuard, binOp, Op.intArith, go_sem]
theorem exec_quo {T T' : TypeId} {x y : Operand} {k : IntKind} {p q : Int} (ho : o.op = .binOp .quo T x y T') (hx : ρ x = .int k p) (hy : ρ y = .int k q) (h0 : ¬ q = 0) : (execOp ρ o).run P w = .ok (.value (.int k (k.wrap (p.tdiv q)))) w := by
  simp [execOp, ho, hx, hy, eqGuard, binOp, Op.intDiv, h0, go_sem]
theorem exec_rem {T T' : TypeId} {x y : Operand} {k : IntKind} {p q : Int} (ho : o.op = .binOp .rem T x y T') (hx : ρ x = .int k p) (hy : ρ y = .int k q) (h0 : ¬ q = 0) : (execOp ρ o).run P w = .ok (.value (.int k (p.tmod q))) w := by
  simp [execOp, ho, hx, hy, eqGuard, binOp, Op.intDiv, h0, go_sem]
theorem exec_eqlI {T T' : TypeId} {x y : Operand} {k : IntKind} {p q : Int} (ho : o.op = .binOp .eql T x y T') (hx : ρ x = .int k p) (hy : ρ y = .int k q) : (execOp ρ o).run P w = .ok (.value (.bool (p == q))) w := by
  simp [execOp, ho, hx, hy, eqGuard, binOp, Op.intCmp, go_sem]
theorem exec_neqI {T T' : TypeId} {x y : Operand} {k : IntKind} {p q : Int} (ho : o.op = .binOp .neq T x y T') (hx : ρ x = .int k p) (hy : ρ y = .int k q) : (execOp ρ o).run P w = .ok (.value (.bool (p != q))) w := by
  simp [execOp, ho, hx, hy, eqGuard, binOp, Op.intCmp, go_sem]
theorem exec_lssI {T T' : TypeId} {x y : Operand} {k : IntKind} {p q : Int} (ho : o.op = .binOp .lss T x y T') (hx : ρ x = .int k p) (hy : ρ y = .int k q) : (execOp ρ o).run P w = .ok (.value (.bool (p < q))) w := by
  simp [execOp, ho, hx, hy, eqGuard, binOp, Op.intCmp, go_sem]
theorem exec_leqI {T T' : TypeId} {x y : Operand} {k : IntKind} {p q : Int} (ho : o.op = .binOp .leq T x y T') (hx : ρ x = .int k p) (hy : ρ y = .int k q) : (execOp ρ o).run P w = .ok (.value (.bool (p ≤ q))) w := by
  simp [execOp, ho, hx, hy, eqGuard, binOp, Op.intCmp, go_sem]
theorem exec_gtrI {T T' : TypeId} {x y : Operand} {k : IntKind} {p q : Int} (ho : o.op = .binOp .gtr T x y T') (hx : ρ x = .int k p) (hy : ρ y = .int k q) : (execOp ρ o).run P w = .ok (.value (.bool (p > q))) w := by
  simp [execOp, ho, hx, hy, eqGuard, binOp, Op.intCmp, go_sem]
theorem exec_geqI {T T' : TypeId} {x y : Operand} {k : IntKind} {p q : Int} (ho : o.op = .binOp .geq T x y T') (hx : ρ x = .int k p) (hy : ρ y = .int k q) : (execOp ρ o).run P w = .ok (.value (.bool (p ≥ q))) w := by
  simp [execOp, ho, hx, hy, eqGuard, binOp, Op.intCmp, go_sem]
theorem exec_addS {T T' : TypeId} {x y : Operand} {p q : ByteArray} (ho : o.op = .binOp .add T x y T') (hx : ρ x = .string p) (hy : ρ y = .string q) (hb : p.size + q.size ≤ strBound) : (execOp ρ o).run P w = .ok (.value (.string (p ++ q))) w := by
  have h2 : ¬ ((p.size + q.size : Nat) : Int) > IntKind.i64.max := by
    simp only [strBound] at hb
    have : IntKind.i64.max = 9223372036854775807 := by rfl
    omega
  simp only [execOp, ho, hx, hy, eqGuard, binOp, Op.stringOp, if_neg h2]
  simp [go_sem]
theorem exec_eqlS {T T' : TypeId} {x y : Operand} {p q : ByteArray} (ho : o.op = .binOp .eql T x y T') (hx : ρ x = .string p) (hy : ρ y = .string q) : (execOp ρ o).run P w = .ok (.value (.bool (p.toList == q.toList))) w := by
  simp [execOp, ho, hx, hy, eqGuard, binOp, Op.stringOp, go_sem]
theorem exec_neqS {T T' : TypeId} {x y : Operand} {p q : ByteArray} (ho : o.op = .binOp .neq T x y T') (hx : ρ x = .string p) (hy : ρ y = .string q) : (execOp ρ o).run P w = .ok (.value (.bool (!(p.toList == q.toList)))) w := by
  simp [execOp, ho, hx, hy, eqGuard, binOp, Op.stringOp, go_sem]
theorem exec_lssS {T T' : TypeId} {x y : Operand} {p q : ByteArray} (ho : o.op = .binOp .lss T x y T') (hx : ρ x = .string p) (hy : ρ y = .string q) : (execOp ρ o).run P w = .ok (.value (.bool (Op.bytesLess p.toList q.toList))) w := by
  simp [execOp, ho, hx, hy, eqGuard, binOp, Op.stringOp, go_sem]
theorem run_equalIn_bool (d : Nat) {T : TypeId} (p q : Bool) (hun : P.underlying T = some .bool) : (Op.equalIn (d + 1) T (.bool p) (.bool q)).run P w = .ok (p == q) w := by
  simp [Op.equalIn, run_underlying hun]
theorem run_eqlB {T : TypeId} (p q : Bool) (hun : P.underlying T = some .bool) : (binOp .eql T (.bool p) (.bool q)).run P w = .ok (.bool (p == q)) w := by
  simp only [binOp]
  simp [Op.equal, Op.maxDepth, run_equalIn_bool 9999 p q hun]
theorem run_neqB {T : TypeId} (p q : Bool) (hun : P.underlying T = some .bool) : (binOp .neq T (.bool p) (.bool q)).run P w = .ok (.bool (p != q)) w := by
  simp only [binOp]
  simp [Op.equal, Op.maxDepth, run_equalIn_bool 9999 p q hun]
  cases p <;> cases q <;> rfl
theorem exec_eqlB {T T' : TypeId} {x y : Operand} {p q : Bool} (hun : P.underlying T = some .bool) (ho : o.op = .binOp .eql T x y T') (hx : ρ x = .bool p) (hy : ρ y = .bool q) : (execOp ρ o).run P w = .ok (.value (.bool (p == q))) w := by
  simp only [execOp, ho, hx, hy, eqGuard]
  simp [run_eqlB p q hun]
theorem exec_neqB {T T' : TypeId} {x y : Operand} {p q : Bool} (hun : P.underlying T = some .bool) (ho : o.op = .binOp .neq T x y T') (hx : ρ x = .bool p) (hy : ρ y = .bool q) : (execOp ρ o).run P w = .ok (.value (.bool (p != q))) w := by
  simp only [execOp, ho, hx, hy, eqGuard]
  simp [run_neqB p q hun]
theorem exec_not {T : TypeId} {x : Operand} {p : Bool} (ho : o.op = .unOp .not T x) (hx : ρ x = .bool p) : (execOp ρ o).run P w = .ok (.value (.bool (!p))) w := by
  simp [execOp, ho, hx, Op.unary, go_sem]
theorem exec_neg {T : TypeId} {x : Operand} {k : IntKind} {p : Int} (ho : o.op = .unOp .neg T x) (hx : ρ x = .int k p) : (execOp ρ o).run P w = .ok (.value (.int k (k.wrap (0 - p)))) w := by
  simp [execOp, ho, hx, Op.unary, Op.intArith, go_sem]
theorem exec_conv {S D : TypeId} {x : Operand} {k k' k'' : IntKind} {p : Int} (h1 : P.underlying D = some (.int k)) (h2 : P.underlying S = some (.int k')) (ho : o.op = .convert S D x) (hx : ρ x = .int k'' p) : (execOp ρ o).run P w = .ok (.value (.int k (k.wrap p))) w := by
  simp [execOp, ho, hx, convert, run_underlying h1, run_underlying h2, Conv.intToInt, go_sem]
theorem exec_makeFunc {f : FuncId} {ca : Array Operand} (ho : o.op = .makeFunc (.func f) #[] ca) : (execOp ρ o).run P w = .ok (.value (.func (.func f) #[] (ca.map ρ))) w := by
  simp [execOp, ho, Instr.makeFunc, go_sem]
theorem exec_extract {x : Operand} {i : Nat} {vs : Array Value} {v : Value} (ho : o.op = .extract x i) (hx : ρ x = .tuple vs) (hi : vs[i]? = some v) : (execOp ρ o).run P w = .ok (.value v) w := by
  simp [execOp, ho, hx, Instr.extract, hi, go_sem]
end

section
variable {P : Program} {K : Kf} {E : El} {n : Nat} {G : Gh} {s : St} {a : Act} {w : World} {CR : CRel} {o : Oper} {u : St}

theorem move_ok (R : Rel E n G s a w) {x : Operand} (ho : o.op = .move x ∨ o.op = .assign x) (hd : dstOk n o.dst = true) (hu : Runs CR s (opd x (put o)) u) : OpOK E n P G s a w o u := by
  obtain ⟨v, hv, hu⟩ := runs_opd hu
  refine put_ok R hd (v := a.eval x) ?_ (opv_ok R hv) hu
  rcases ho with ho | ho <;> simp [execOp, ho, Sem.run]

theorem pick_ok (R : Rel E n G s a w) {c x y : Operand} (ho : o.op = .pick c x y) (hd : dstOk n o.dst = true) (hu : Runs CR s (vop K o) u) : OpOK E n P G s a w o u := by
  simp only [vop, ho] at hu
  obtain ⟨v, hv, hu⟩ := runs_opd hu
  have hc := opv_ok R hv
  split at hu
  · rename_i p
    have hc' : a.eval c = .bool p := hc
    rcases hu with ⟨rfl, hu⟩ | ⟨rfl, hu⟩
    · obtain ⟨v, hv, hu⟩ := runs_opd hu
      exact put_ok R hd (v := a.eval x) (by have := exec_pick (P := P) (w := w) ho hc'; simpa using this) (opv_ok R hv) hu
    · obtain ⟨v, hv, hu⟩ := runs_opd hu
      exact put_ok R hd (v := a.eval y) (by have := exec_pick (P := P) (w := w) ho hc'; simpa using this) (opv_ok R hv) hu
  · exact hu.elim

theorem arith_ok (R : Rel E n G s a w) {op : BinOp} {T T' : TypeId} {x y : Operand} (ho : o.op = .binOp op T x y T') (hd : dstOk n o.dst = true) {k : IntKind} {p q : Int}
    (hx : a.eval x = .int k p) (hy : a.eval y = .int k q) (hu : Runs CR s (arith op k p q (put o)) u) : OpOK E n P G s a w o u := by
  cases op <;> simp only [arith, wrapF_eq, iLt_eq, iLe_eq, iEq_eq] at hu
  case add => exact put_ok R hd (exec_add ho hx hy) (by rfl) hu
  case sub => exact put_ok R hd (exec_sub ho hx hy) (by rfl) hu
  case mul => exact put_ok R hd (exec_mul ho hx hy) (by rfl) hu
  case quo =>
    obtain ⟨h0, hu⟩ := hu
    exact put_ok R hd (exec_quo ho hx hy (by simpa using h0)) (by rfl) hu
  case rem =>
    obtain ⟨h0, hu⟩ := hu
    exact put_ok R hd (exec_rem ho hx hy (by simpa using h0)) (by rfl) hu
  case eql => exact put_ok R hd (exec_eqlI ho hx hy) (by rfl) hu
  case neq => exact put_ok R hd (exec_neqI ho hx hy) (by rfl) hu
  case lss => exact put_ok R hd (exec_lssI ho hx hy) (by rfl) hu
  case leq => exact put_ok R hd (exec_leqI ho hx hy) (by rfl) hu
  case gtr => exact put_ok R hd (exec_gtrI ho hx hy) (by rfl) hu
  case geq => exact put_ok R hd (exec_geqI ho hx hy) (by rfl) hu
  all_goals exact hu.elim

theorem binOp_ok (hK : TyOK P K E) (R : Rel E n G s a w) {op : BinOp} {T T' : TypeId} {x y : Operand} (ho : o.op = .binOp op T x y T') (hd : dstOk n o.dst = true) (hu : Runs CR s (vop K o) u) : OpOK E n P G s a w o u := by
  simp only [vop, ho] at hu
  obtain ⟨v, hv, hu⟩ := runs_opd hu
  obtain ⟨v', hv', hu⟩ := runs_opd hu
  have hx := opv_ok R hv
  have hy := opv_ok R hv'
  cases v with
  | sc v => cases v with
    | int k p =>
      cases v' with
      | sc v' => cases v' with
        | int k' q =>
          obtain ⟨hk, hu⟩ := hu
          have hk' : k = k' := by simpa using hk
          subst hk'
          exact arith_ok R ho hd hx hy hu
        | _ => exact hu.elim
      | _ => exact hu.elim
    | str p =>
      cases v' with
      | sc v' => cases v' with
        | str q =>
          have hx' : a.eval x = .string p := hx
          have hy' : a.eval y = .string q := hy
          cases op with
          | add =>
            obtain ⟨hb, hu⟩ := hu
            exact put_ok R hd (exec_addS ho hx' hy' (by simpa using hb)) (by rfl) hu
          | eql => exact put_ok R hd (exec_eqlS ho hx' hy') (by rfl) hu
          | neq => exact put_ok R hd (exec_neqS ho hx' hy') (by rfl) hu
          | lss => exact put_ok R hd (exec_lssS ho hx' hy') (by rfl) hu
          | _ => exact hu.elim
        | _ => exact hu.elim
      | _ => exact hu.elim
    | bool p =>
      cases v' with
      | sc v' => cases v' with
        | bool q =>
          have hx' : a.eval x = .bool p := hx
          have hy' : a.eval y = .bool q := hy
          dsimp only at hu
          split at hu
          · rename_i hT
            have hT' := hK T
            rw [hT] at hT'
            have hun := hT'.1
            cases op with
            | eql => exact put_ok R hd (exec_eqlB hun ho hx' hy') (by rfl) hu
            | neq => exact put_ok R hd (exec_neqB hun ho hx' hy') (by rfl) hu
            | _ => exact hu.elim
          · exact hu.elim
        | _ => exact hu.elim
      | _ => exact hu.elim
    | _ => exact hu.elim
  | _ => exact hu.elim

theorem unOp_ok (R : Rel E n G s a w) {op : UnOp} {T : TypeId} {x : Operand} (ho : o.op = .unOp op T x) (hd : dstOk n o.dst = true) (hu : Runs CR s (vop K o) u) : OpOK E n P G s a w o u := by
  simp only [vop, ho] at hu
  obtain ⟨v, hv, hu⟩ := runs_opd hu
  have hx := opv_ok R hv
  split at hu
  · split at hu
    · rename_i b
      have hx' : a.eval x = .bool b := hx
      exact put_ok R hd (exec_not ho hx') (by rfl) hu
    · exact hu.elim
  · split at hu
    · rename_i k m
      have hx' : a.eval x = .int k m := hx
      exact put_ok R hd (exec_neg ho hx') (by rfl) hu
    · exact hu.elim
  · exact hu.elim

theorem convert_ok (hK : TyOK P K E) (R : Rel E n G s a w) {S D : TypeId} {x : Operand} (ho : o.op = .convert S D x) (hd : dstOk n o.dst = true) (hu : Runs CR s (vop K o) u) : OpOK E n P G s a w o u := by
  simp only [vop, ho] at hu
  obtain ⟨v, hv, hu⟩ := runs_opd hu
  have hx := opv_ok R hv
  split at hu
  · rename_i k hk
    split at hu
    · rename_i k' hk'
      split at hu
      · rename_i k'' m
        have hx' : a.eval x = .int k'' m := hx
        have h1 := hK D
        have h2 := hK S
        rw [hk] at h1
        rw [hk'] at h2
        exact put_ok R hd (exec_conv h1.1 h2.1 ho hx') (by rfl) hu
      · exact hu.elim
    · exact hu.elim
  · exact hu.elim

theorem makeFunc_ok (R : Rel E n G s a w) {fn : Fn} {fi ca : Array Operand} (ho : o.op = .makeFunc fn fi ca) (hd : dstOk n o.dst = true) (hu : Runs CR s (vop K o) u) : OpOK E n P G s a w o u := by
  have opds_inv : ∀ (xs : List Operand) (k : List VV → Rd) (u : St), Runs CR s (opds xs k) u → ∃ vs, vs.length = xs.length ∧ (∀ (j : Nat) x v, xs[j]? = some x → vs[j]? = some v → VR G s w (a.eval x) v) ∧ Runs CR s (k vs) u := by
    intro xs
    induction xs with
    | nil => intro k u h; exact ⟨[], rfl, by simp, h⟩
    | cons x xs ih =>
      intro k u h
      simp only [opds] at h
      obtain ⟨v, hv, h⟩ := runs_opd h
      obtain ⟨vs, h1, h2, h3⟩ := ih _ u h
      refine ⟨v :: vs, by simp [h1], fun j y z hy hz => ?_, h3⟩
      cases j with
      | zero => simp at hy hz; subst hy; subst hz; exact opv_ok R hv
      | succ j => exact h2 j y z (by simpa using hy) (by simpa using hz)
  simp only [vop, ho] at hu
  split at hu
  · rename_i f
    split at hu
    · rename_i hfi
      obtain ⟨vs, h1, h2, hu⟩ := opds_inv _ _ _ hu
      split at hu
      · rename_i ks hks
        have hfi' : fi = #[] := by simpa using hfi
        subst hfi'
        refine put_ok R hd (v := .func (.func f) #[] (ca.map a.eval)) (exec_makeFunc ho) ?_ hu
        show _ = Value.func (.func f) #[] (ks.map (capV G.B)).toArray
        congr 1
        have key : ∀ (xs : List Operand) (vs : List VV) (ks : List Key), vs.length = xs.length → (∀ (j : Nat) x v, xs[j]? = some x → vs[j]? = some v → VR G s w (a.eval x) v) → capsOf vs = some ks → xs.map a.eval = ks.map (capV G.B) := by
          intro xs
          induction xs with
          | nil =>
            intro vs ks hl _ hc
            have : vs = [] := List.eq_nil_of_length_eq_zero (by simpa using hl)
            subst this
            simp [capsOf] at hc
            subst hc
            rfl
          | cons x xs ih =>
            intro vs ks hl hr hc
            cases vs with
            | nil => simp at hl
            | cons v vs =>
              cases v with
              | pt b =>
                simp only [capsOf, Option.map_eq_some_iff] at hc
                obtain ⟨ks', hc1, rfl⟩ := hc
                have e0 : a.eval x = capV G.B b := hr 0 x (.pt b) rfl rfl
                simp only [List.map_cons, e0]
                rw [ih vs ks' (by simpa using hl) (fun j y z hy hz => hr (j + 1) y z (by simpa using hy) (by simpa using hz)) hc1]
              | _ => simp [capsOf] at hc
        have := key ca.toList vs ks h1 h2 hks
        rw [← this]
        apply Array.ext'
        simp
      · exact hu.elim
    · exact hu.elim
  · exact hu.elim

theorem extract_ok (R : Rel E n G s a w) {x : Operand} {i : Nat} (ho : o.op = .extract x i) (hd : dstOk n o.dst = true) (hu : Runs CR s (vop K o) u) : OpOK E n P G s a w o u := by
  simp only [vop, ho] at hu
  obtain ⟨v, hv, hu⟩ := runs_opd hu
  have hx := opv_ok R hv
  split at hu
  · rename_i xs
    obtain ⟨vs, h1, h2, h3⟩ := hx
    split at hu
    · rename_i z hz
      have hi : i < xs.length := (List.getElem?_eq_some_iff.1 hz).1
      have hi' : i < vs.length := by omega
      refine put_ok R hd (v := vs[i]) (exec_extract ho h1 (by simp [List.getElem?_eq_getElem hi'])) ?_ hu
      have := h3 i vs[i] z (List.getElem?_eq_getElem hi') hz
      cases z with
      | tp ys => exact this.elim
      | _ => exact this
    · exact hu.elim
  · exact hu.elim
end
end Go.Tm
