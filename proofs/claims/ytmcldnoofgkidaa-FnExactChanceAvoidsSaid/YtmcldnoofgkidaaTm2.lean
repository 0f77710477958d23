/- The T-machine: how its states stand to the model's worlds. -/
import Derived.Test.YtmcldnoofgkidaaTm1
set_option linter.unusedVariables false
namespace Go.Tm
open Go.RowKit

/-- What a block is. -/
inductive Lab where
  | no
  | im
  | ow (τ : Nat) (p : Option Nat)
  | bx (b : Key)
deriving DecidableEq

/-- The types of elements. -/
structure El where
  eI : IntKind → TypeId
  eS : TypeId
  eR : TypeId
  /-- the blocks of the boxes that are passed -/
  BP : Nat → Nat

structure Gh where
  O : Nat → Lab
  H : Nat → Value
  B : Key → Nat

abbrev Lbl := Nat → Lab

def vints (k : IntKind) (xs : List Int) : List Value := xs.map (.int k)
def vstrs (xs : List ByteArray) : List Value := xs.map .string

/-- A slice whose cells are read and never written. -/
def SlI (O : Lbl) (w : World) (v : Value) (cells : List Value) : Prop :=
  ∃ a cap, v = .slice a cells.length cap ∧ cells.length ≤ cap ∧ cells.length ≤ maxLen ∧
    (cells ≠ [] → ∃ ad, a = some ad ∧ O ad.block = .im ∧ ∀ j u, cells[j]? = some u → w.cell? (ad.add j) = some u)

/-- A slice of the call's own. -/
def SlO (O : Lbl) (w : World) (lab : Lab) (e : TypeId) (v : Value) (cells : List Value) : Prop :=
  w.ownsRow 0 e 1 v cells.length cells ∧ ∀ g, v.ownBlock = some g → O g = lab

def VP (O : Lbl) (w : World) (v : Value) : PV → Prop
  | .int k n => v = .int k n
  | .bool b => v = .bool b
  | .str s => v = .string s
  | .nil => v = .slice none 0 0
  | .ints k xs => SlI O w v (vints k xs)
  | .strs xs => SlI O w v (vstrs xs)
  | .rows xss => ∃ hs : List Value, SlI O w v hs ∧ hs.length = xss.length ∧ ∀ (j : Nat) h xs, hs[j]? = some h → xss[j]? = some xs → SlI O w h (vints .i64 xs)
  | .arr k n xs => v = .agg (vints k xs).toArray ∧ xs.length = n

def VC (E : El) (O : Lbl) (w : World) (τ : Nat) (v : Value) : Ct → Prop
  | .ints k xs => SlO O w (.ow τ none) (E.eI k) v (vints k xs)
  | .strs xs => SlO O w (.ow τ none) E.eS v (vstrs xs)
  | .rows own xss => ∃ hs : List Value, SlO O w (.ow τ none) E.eR v hs ∧ hs.length = xss.length ∧ ∀ (j : Nat) h xs, hs[j]? = some h → xss[j]? = some xs →
      (own = true → SlO O w (.ow τ (some j)) (E.eI .i64) h (vints .i64 xs)) ∧ (own = false → SlI O w h (vints .i64 xs))
  | .hole k xss => ∃ hs : List Value, SlO O w (.ow τ none) E.eR v hs ∧ hs.length = xss.length ∧ ∀ (j : Nat) h xs, j ≠ k → hs[j]? = some h → xss[j]? = some xs →
      SlO O w (.ow τ (some j)) (E.eI .i64) h (vints .i64 xs)

/-- A part of a slice's value. -/
def IsWin (hv v : Value) (lo n : Nat) : Prop :=
  ∃ a l cap a', hv = .slice a l cap ∧ lo + n ≤ l ∧ l ≤ cap ∧ v = .slice a' n (cap - lo) ∧ ((0 < n ∨ lo = 0) → a' = a.map (·.add lo))

/-- The cell of a slice. -/
def cellOf (w : World) (v : Value) (i : Nat) : Option Value :=
  match v with
  | .slice (some ad) _ _ => w.cell? (ad.add i)
  | _ => none

def ptrTo (v : Value) (i : Nat) : Value :=
  match v with
  | .slice (some ad) _ _ => .pointer (some (ad.add i))
  | v => v

def rowLen : Ct → Nat → Option Nat
  | .rows true xss, k => (xss[k]?).map (·.length)
  | _, _ => none

def capV (B : Key → Nat) (b : Key) : Value := .pointer (some ⟨B b, 0, none⟩)

/-- A value of one cell. -/
def Sgl : Value → Prop
  | .agg _ => False
  | .tuple _ => False
  | _ => True

def VR0 (G : Gh) (s : St) (w : World) (v : Value) : VV → Prop
  | .sc x => VP G.O w v x
  | .rf τ => Sgl v ∧ ((s.get (.tok τ)).live = true → v = G.H τ)
  | .rw τ lo n => Sgl v ∧ ((s.get (.tok τ)).live = true → IsWin (G.H τ) v lo n)
  | .ri τ iv k => Sgl v ∧ ∀ iv' c, s.get (.tok τ) = .t iv' c → iv ≤ iv' ∧ (iv = iv' → ∃ n, rowLen c k = some n ∧ cellOf w (G.H τ) k = some v)
  | .ea τ i => Sgl v ∧ ∀ iv c, s.get (.tok τ) = .t iv c → i < c.len ∧ v = ptrTo (G.H τ) i
  | .ei τ iv k j => Sgl v ∧ ∀ iv' c, s.get (.tok τ) = .t iv' c → iv ≤ iv' ∧ (iv = iv' → ∃ n h, rowLen c k = some n ∧ j < n ∧ cellOf w (G.H τ) k = some h ∧ v = ptrTo h j)
  | .ai x => ∃ ad u, v = .pointer (some ad) ∧ G.O ad.block = .im ∧ w.cell? ad = some u ∧ VP G.O w u x
  | .pt b => v = .pointer (some ⟨G.B b, 0, none⟩)
  | .pa b m i => v = .pointer (some ⟨G.B b, i, none⟩) ∧ i < m
  | .fn f cs => v = .func (.func f) #[] (cs.map (capV G.B)).toArray
  | .tp _ => False
  | .nf => v = .nilFunc
  | .ud => v = undef
  | .un => True

def VR (G : Gh) (s : St) (w : World) (v : Value) : VV → Prop
  | .tp xs => ∃ vs : List Value, v = .tuple vs.toArray ∧ vs.length = xs.length ∧ ∀ (j : Nat) u x, vs[j]? = some u → xs[j]? = some x → VR0 G s w u x
  | x => VR0 G s w v x

structure Rel (E : El) (n : Nat) (G : Gh) (s : St) (a : Act) (w : World) : Prop where
  size : a.tmps.size = n
  defers : a.defers = []
  slots : ∀ t v, s.get (.slot t) = .v v → VR G s w (a.tmps.getD t undef) v
  boxes : ∀ b v, s.get (.box b) = .v v → v = .un ∨ (G.O (G.B b) = .bx b ∧ ∃ u e, w.heap[G.B b]? = some (.cells u.cells e (0, 0)) ∧ VR G s w u v)
  toks : ∀ τ iv c, s.get (.tok τ) = .t iv c → VC E G.O w τ (G.H τ) c
  froz : ∀ τ x, s.get (.tok τ) = .f x → VP G.O w (G.H τ) x
  fresh : ∀ g, w.heap.size ≤ g → G.O g = .no
  par : ∀ j, G.B (.par j) = E.BP j

/-- What a step leaves alone. -/
structure Fr (O : Lbl) (w : World) (O' : Lbl) (w' : World) : Prop where
  os : w'.os = w.os
  tape : w'.tape = w.tape
  output : w'.output = w.output
  size : w.heap.size ≤ w'.heap.size
  im : ∀ g, O g = .im → O' g = .im ∧ w'.heap[g]? = w.heap[g]?
  no : ∀ g, g < w.heap.size → O g = .no → O' g = .no ∧ w'.heap[g]? = w.heap[g]?

theorem Fr.refl (O : Lbl) (w : World) : Fr O w O w := ⟨rfl, rfl, rfl, Nat.le_refl _, fun _ h => ⟨h, rfl⟩, fun _ _ h => ⟨h, rfl⟩⟩
theorem Fr.trans {O O' O'' : Lbl} {w w' w'' : World} (h : Fr O w O' w') (k : Fr O' w' O'' w'') : Fr O w O'' w'' :=
  ⟨k.os.trans h.os, k.tape.trans h.tape, k.output.trans h.output, Nat.le_trans h.size k.size,
    fun g hg => by
      obtain ⟨h1, h2⟩ := h.im g hg
      obtain ⟨k1, k2⟩ := k.im g h1
      exact ⟨k1, k2.trans h2⟩,
    fun g hlt hg => by
      obtain ⟨h1, h2⟩ := h.no g hlt hg
      obtain ⟨k1, k2⟩ := k.no g (Nat.lt_of_lt_of_le hlt h.size) h1
      exact ⟨k1, k2.trans h2⟩⟩

/-! ### Fast reckoning -/
theorem iLt_iff {x y : Int} : iLt x y = true ↔ x < y := by
  cases x with
  | ofNat a => cases y with
    | ofNat b => simp only [iLt, Nat.blt_eq]; exact Int.ofNat_lt.symm
    | negSucc b => simp only [iLt, Bool.false_eq_true, false_iff, Int.ofNat_eq_natCast]; omega
  | negSucc a => cases y with
    | ofNat b => simp only [iLt, true_iff, Int.ofNat_eq_natCast]; omega
    | negSucc b => simp only [iLt, Nat.blt_eq]; omega
theorem iLe_iff {x y : Int} : iLe x y = true ↔ x ≤ y := by
  cases x with
  | ofNat a => cases y with
    | ofNat b => simp only [iLe, Nat.ble_eq]; exact Int.ofNat_le.symm
    | negSucc b => simp only [iLe, Bool.false_eq_true, false_iff, Int.ofNat_eq_natCast]; omega
  | negSucc a => cases y with
    | ofNat b => simp only [iLe, true_iff, Int.ofNat_eq_natCast]; omega
    | negSucc b => simp only [iLe, Nat.ble_eq]; omega
theorem iEq_iff {x y : Int} : iEq x y = true ↔ x = y := by
  cases x with
  | ofNat a => cases y with
    | ofNat b => simp only [iEq, Nat.beq_eq]; exact ⟨fun h => by rw [h], fun h => Int.ofNat.inj h⟩
    | negSucc b => simp [iEq]
  | negSucc a => cases y with
    | ofNat b => simp [iEq]
    | negSucc b => simp only [iEq, Nat.beq_eq]; exact ⟨fun h => by rw [h], fun h => Int.negSucc.inj h⟩
theorem iLt_eq (x y : Int) : iLt x y = decide (x < y) := by rw [Bool.eq_iff_iff, iLt_iff, decide_eq_true_iff]
theorem iLe_eq (x y : Int) : iLe x y = decide (x ≤ y) := by rw [Bool.eq_iff_iff, iLe_iff, decide_eq_true_iff]
theorem iEq_eq (x y : Int) : iEq x y = (x == y) := by rw [Bool.eq_iff_iff, iEq_iff, beq_iff_eq]

theorem wrap64_id {n : Int} (h1 : -9223372036854775808 ≤ n) (h2 : n < 9223372036854775808) : IntKind.wrap .i64 n = n := by
  unfold IntKind.wrap
  simp only [IntKind.bits, IntKind.signed]
  have e : (2 ^ 64 : Int) = 18446744073709551616 := by decide
  have e' : (2 ^ (64 - 1) : Int) = 9223372036854775808 := by decide
  simp only [e, e', Bool.true_and, decide_eq_true_eq]
  split <;> omega

theorem wrapF_eq (k : IntKind) (n : Int) : wrapF k n = k.wrap n := by
  have key : ∀ (b : Bool) (n m : Int), (b = true → m = n) → (bif b then n else m) = m := by
    intro b n m h
    cases b with
    | true => exact (h rfl).symm
    | false => rfl
  cases k <;> try rfl
  cases n with
  | ofNat a =>
    refine key _ _ _ fun hb => ?_
    rw [Nat.blt_eq] at hb
    exact wrap64_id (by rw [Int.ofNat_eq_natCast]; omega) (by rw [Int.ofNat_eq_natCast]; omega)
  | negSucc a =>
    refine key _ _ _ fun hb => ?_
    rw [Nat.blt_eq] at hb
    exact wrap64_id (by omega) (by omega)

/-! ### Looking up -/
theorem Key.beq_iff {a b : Key} : Key.beq a b = true ↔ a = b := by
  cases a <;> cases b <;> simp [Key.beq]
theorem Loc.beq_iff {a b : Loc} : Loc.beq a b = true ↔ a = b := by
  cases a <;> cases b <;> simp [Loc.beq, Key.beq_iff]
theorem get_cons (l m : Loc) (x : SV) (s : St) : St.get ((l, x) :: s) m = if l = m then x else St.get s m := by
  simp only [St.get]
  by_cases h : l = m
  · rw [if_pos h, Loc.beq_iff.2 h]; rfl
  · rw [if_neg h, Bool.eq_false_iff.2 (fun e => h (Loc.beq_iff.1 e))]; rfl
@[simp] theorem get_nil (m : Loc) : St.get [] m = .v .un := rfl

theorem natHas_iff {τ : Nat} {l : List Nat} : natHas τ l = true ↔ τ ∈ l := by
  induction l with
  | nil => simp [natHas]
  | cons a l ih => simp [natHas, ih]

/-- Nothing of the state refers to the token. -/
def NoRef (τ : Nat) (s : St) : Prop := ∀ l v, s.get l = .v v → τ ∉ v.toks

theorem noRef_get {τ : Nat} {s : St} (h : noRef τ s = true) : NoRef τ s := by
  induction s with
  | nil => intro l v hv; simp at hv; subst hv; simp [VV.toks]
  | cons p s ih =>
    obtain ⟨m, x⟩ := p
    intro l v hv
    rw [get_cons] at hv
    cases x with
    | v y =>
      simp only [noRef, Bool.and_eq_true, Bool.not_eq_true', Bool.eq_false_iff, ne_eq, natHas_iff] at h
      split at hv
      · injection hv with hv; subst hv; exact h.1
      · exact ih h.2 l v hv
    | t iv c =>
      simp only [noRef] at h
      split at hv
      · cases hv
      · exact ih h l v hv
    | f c =>
      simp only [noRef] at h
      split at hv
      · cases hv
      · exact ih h l v hv

theorem add0 (g i : Nat) : (⟨g, 0, none⟩ : Addr).add i = ⟨g, i, none⟩ := by
  unfold Addr.add
  split
  · rename_i h; subst h; rfl
  · simp

/-! ### What is read stays -/
theorem tmCell {w w' : World} {a : Addr} (h : w'.heap[a.block]? = w.heap[a.block]?) : w'.cell? a = w.cell? a := World.cell?_of_block h

theorem SlI.keep {O O' : Lbl} {w w' : World} {v : Value} {cs : List Value} (h : SlI O w v cs) (him : ∀ g, O g = .im → O' g = .im ∧ w'.heap[g]? = w.heap[g]?) : SlI O' w' v cs := by
  obtain ⟨a, cap, rfl, h1, h2, h3⟩ := h
  refine ⟨a, cap, rfl, h1, h2, fun hne => ?_⟩
  obtain ⟨ad, rfl, ho, hc⟩ := h3 hne
  obtain ⟨ho', hh⟩ := him _ ho
  refine ⟨ad, rfl, ho', fun j u hu => ?_⟩
  have hb : (ad.add j).block = ad.block := by unfold Addr.add; split <;> rfl
  rw [tmCell (w := w) (w' := w') (a := ad.add j) (by rw [hb]; exact hh)]
  exact hc j u hu

theorem VP.keep {O O' : Lbl} {w w' : World} {v : Value} {x : PV} (h : VP O w v x) (him : ∀ g, O g = .im → O' g = .im ∧ w'.heap[g]? = w.heap[g]?) : VP O' w' v x := by
  cases x with
  | ints k xs => exact SlI.keep h him
  | strs xs => exact SlI.keep h him
  | rows xss =>
    obtain ⟨hs, h1, h2, h3⟩ := h
    exact ⟨hs, h1.keep him, h2, fun j h xs hh hx => (h3 j h xs hh hx).keep him⟩
  | _ => exact h

theorem Fr.vp {O O' : Lbl} {w w' : World} (f : Fr O w O' w') {v : Value} {x : PV} (h : VP O w v x) : VP O' w' v x := h.keep f.im

theorem SlO.keep {O O' : Lbl} {w w' : World} {lab lab' : Lab} {e : TypeId} {v : Value} {cs : List Value} (h : SlO O w lab e v cs)
    (hk : ∀ g, O g = lab → g < w.heap.size → O' g = lab' ∧ w'.heap[g]? = w.heap[g]?) : SlO O' w' lab' e v cs := by
  obtain ⟨⟨h1, h2⟩, h3⟩ := h
  rcases h2 with ⟨rfl, hn⟩ | ⟨g, cap, cur, rfl, hb, hg, r1, r2, r3, r4⟩
  · exact ⟨⟨h1, .inl ⟨rfl, hn⟩⟩, fun g hg => absurd hg (by simp [Value.ownBlock])⟩
  · have hlt : g < w.heap.size := (Array.getElem?_eq_some_iff.1 hg).1
    obtain ⟨a1, a2⟩ := hk g (h3 g rfl) hlt
    refine ⟨⟨h1, .inr ⟨g, cap, cur, rfl, hb, by rw [a2]; exact hg, r1, r2, r3, r4⟩⟩, fun g' hg' => ?_⟩
    simp [Value.ownBlock] at hg'
    subst hg'
    exact a1

theorem VC.move {E : El} {O O' : Lbl} {w w' : World} {τ τ' : Nat} {v : Value} {c : Ct} (h : VC E O w τ v c)
    (him : ∀ g, O g = .im → O' g = .im ∧ w'.heap[g]? = w.heap[g]?)
    (how : ∀ g p, O g = .ow τ p → g < w.heap.size → O' g = .ow τ' p ∧ w'.heap[g]? = w.heap[g]?) : VC E O' w' τ' v c := by
  cases c with
  | ints k xs => exact SlO.keep h fun g hg => how g none hg
  | strs xs => exact SlO.keep h fun g hg => how g none hg
  | rows own xss =>
    obtain ⟨hs, h1, h2, h3⟩ := h
    refine ⟨hs, h1.keep fun g hg => how g none hg, h2, fun j h xs hh hx => ?_⟩
    obtain ⟨a1, a2⟩ := h3 j h xs hh hx
    exact ⟨fun e => (a1 e).keep fun g hg => how g (some j) hg, fun e => (a2 e).keep him⟩
  | hole k xss =>
    obtain ⟨hs, h1, h2, h3⟩ := h
    exact ⟨hs, h1.keep fun g hg => how g none hg, h2, fun j h xs hj hh hx => (h3 j h xs hj hh hx).keep fun g hg => how g (some j) hg⟩

/-- An own slice may be read for ever, once nobody writes it. -/
theorem SlO.frozen {O O' : Lbl} {w w' : World} {lab : Lab} {e : TypeId} {v : Value} {cs : List Value} (h : SlO O w lab e v cs)
    (hk : ∀ g, O g = lab → g < w.heap.size → O' g = .im ∧ w'.heap[g]? = w.heap[g]?) (hm : cs.length ≤ maxLen) : SlI O' w' v cs := by
  obtain ⟨⟨h1, h2⟩, h3⟩ := h
  rcases h2 with ⟨rfl, hn⟩ | ⟨g, cap, cur, rfl, hb, hg, r1, r2, r3, r4⟩
  · have : cs = [] := List.eq_nil_of_length_eq_zero hn
    subst this
    exact ⟨none, 0, rfl, Nat.le_refl _, Nat.zero_le _, fun h => absurd rfl h⟩
  · have hlt : g < w.heap.size := (Array.getElem?_eq_some_iff.1 hg).1
    obtain ⟨a1, a2⟩ := hk g (h3 g rfl) hlt
    refine ⟨_, cap, rfl, r1, hm, fun hne => ⟨_, rfl, a1, fun j u hu => ?_⟩⟩
    have hrow : w'.ownsRow 0 e 1 (.slice (some ⟨g, 0, none⟩) cs.length cap) cs.length cs := ⟨h1, .inr ⟨g, cap, cur, rfl, hb, by rw [a2]; exact hg, r1, r2, r3, r4⟩⟩
    exact hrow.cells (g := g) rfl j u hu

theorem SlO.len {O : Lbl} {w : World} {lab : Lab} {e : TypeId} {v : Value} {cs : List Value} (h : SlO O w lab e v cs) : cs.length ≤ maxLen ∧ ∃ a cap, v = .slice a cs.length cap ∧ cs.length ≤ cap := by
  obtain ⟨⟨h1, h2⟩, h3⟩ := h
  rcases h2 with ⟨rfl, hn⟩ | ⟨g, cap, cur, rfl, hb, hg, r1, r2, r3, r4⟩
  · rw [hn]; exact ⟨Nat.zero_le _, none, 0, rfl, Nat.le_refl _⟩
  · exact ⟨Nat.le_trans r1 r2, _, cap, rfl, r1⟩

/-- The cell of an own slice. -/
theorem SlO.cell {O : Lbl} {w : World} {lab : Lab} {e : TypeId} {v : Value} {cs : List Value} (h : SlO O w lab e v cs) {i : Nat} {u : Value} (hi : cs[i]? = some u) :
    ∃ g cap, v = .slice (some ⟨g, 0, none⟩) cs.length cap ∧ O g = lab ∧ w.cell? ⟨g, i, none⟩ = some u ∧ (∃ cur, w.heap[g]? = some (.cells cur e (0, 0))) := by
  obtain ⟨⟨h1, h2⟩, h3⟩ := h
  rcases h2 with ⟨rfl, hn⟩ | ⟨g, cap, cur, rfl, hb, hg, r1, r2, r3, r4⟩
  · have : cs = [] := List.eq_nil_of_length_eq_zero hn
    subst this
    simp at hi
  · have hrow : w.ownsRow 0 e 1 (.slice (some ⟨g, 0, none⟩) cs.length cap) cs.length cs := ⟨h1, .inr ⟨g, cap, cur, rfl, hb, hg, r1, r2, r3, r4⟩⟩
    have := hrow.cells (g := g) rfl i u hi
    rw [add0] at this
    exact ⟨g, cap, rfl, h3 g rfl, this, cur, hg⟩

end Go.Tm
