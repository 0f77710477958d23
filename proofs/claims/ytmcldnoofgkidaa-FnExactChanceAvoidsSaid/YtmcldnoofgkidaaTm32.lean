/- The T-machine: handing contracts to callers; the way to a law's row. -/
import Derived.Test.YtmcldnoofgkidaaTm31
import Derived.Below
set_option linter.unusedVariables false
set_option linter.unusedSimpArgs false
namespace Go.Tm
open Go.RowKit

/-! ### A slice without memory may be told as an empty one -/
def CVle (c d : CV) : Prop := c = d ∨ (c = .sc .nil ∧ ((∃ x, d = .sc x ∧ (NlM.im x).ok = true) ∨ ∃ x, d = .ow x ∧ (NlM.tok x).ok = true))

def CVsLe : List CV → List CV → Prop
  | [], [] => True
  | c :: cs, d :: ds => CVle c d ∧ CVsLe cs ds
  | _, _ => False

theorem CVle.refl (c : CV) : CVle c c := .inl rfl

theorem CVsLe.refl : ∀ cs, CVsLe cs cs
  | [] => trivial
  | c :: cs => ⟨.inl rfl, CVsLe.refl cs⟩

theorem CVsLe.len : ∀ {cs ds : List CV}, CVsLe cs ds → cs.length = ds.length
  | [], [], _ => rfl
  | _ :: cs, _ :: ds, h => by simp [CVsLe.len h.2]
  | [], _ :: _, h => h.elim
  | _ :: _, [], h => h.elim

theorem CVsLe.at : ∀ {cs ds : List CV}, CVsLe cs ds → ∀ {j : Nat} {d : CV}, ds[j]? = some d → ∃ c, cs[j]? = some c ∧ CVle c d
  | c :: cs, d :: ds, h, 0, e, he => by simp at he; subst he; exact ⟨c, rfl, h.1⟩
  | c :: cs, d :: ds, h, j + 1, e, he => by simpa using CVsLe.at h.2 (by simpa using he)
  | [], [], _, j, e, he => by simp at he
  | [], _ :: _, h, _, _, _ => h.elim
  | _ :: _, [], h, _, _, _ => h.elim

section
variable {P : Program} {E : El} {O : Lbl} {w : World} {B : Nat → Nat}

theorem CVR.le {τ : Nat} {v : Value} {c d : CV} (h : CVR E O w B τ v c) (hl : CVle c d) : CVR E O w B τ v d := by
  rcases hl with rfl | ⟨rfl, ⟨x, rfl, hx⟩ | ⟨x, rfl, hx⟩⟩
  · exact h
  · have h' : v = .slice none 0 0 := h
    rw [h']
    exact vp_nil hx
  · have h' : v = .slice none 0 0 := h
    rw [h']
    exact vc_nil hx

theorem CallSpec.le {f : FuncId} {as bx as2 bx2 rs bx' : List CV} (h : CallSpec P E f as2 bx2 rs bx') (ha : CVsLe as as2) (hb : CVsLe bx bx2) : CallSpec P E f as bx rs bx' := by
  intro O B vals w hO hl hargs hbx
  have e2 := hb.len
  refine (h O B vals w hO (by rw [hl, ha.len]) (fun j v d h1 h2 => ?_) ⟨fun j hj => hbx.lab j (by omega), fun j d hd => ?_⟩).mono fun e w' hp => ?_
  · obtain ⟨c, hc, hle⟩ := ha.at h2
    exact (hargs j v c h1 hc).le hle
  · obtain ⟨c, hc, hle⟩ := hb.at hd
    obtain ⟨u, e, h1, h2⟩ := hbx.val j c hc
    exact ⟨u, e, h1, h2.le hle⟩
  · obtain ⟨O', rv, h1, h2, h3, h4, h5, h6, h7⟩ := hp
    exact ⟨O', rv, h1, h2, h3, h4, h5, by rw [h6, e2], h7⟩

/-- The contracts that a caller may lean on. -/
def CRG (P : Program) (E : El) : CRel := fun f as bx rs bx' => CallSpec P E f as bx rs bx' ∧ FnOK P f ∧ rs.length ≤ 90

theorem contracts_ok : ContractsOK P E (CRG P E) := fun _ _ _ _ _ h => h

abbrev Hd := List CV → List CV → (List CV → List CV → Option RT) → Option RT

def HSound (P : Program) (E : El) (f : FuncId) (h : Hd) : Prop := ∀ as bx k r, h as bx k = some r → ∃ rs bx', CRG P E f as bx rs bx' ∧ k rs bx' = some r

def hNone : CHan := fun _ _ _ _ => none
def hSel (f0 : FuncId) (h : Hd) (rest : CHan) : CHan := fun f as bx k => bif Nat.beq f f0 then h as bx k else rest f as bx k

theorem cs_none {CR : CRel} : CSound hNone CR := fun _ _ _ _ _ h => by cases h
theorem cs_sel {f0 : FuncId} {h : Hd} {rest : CHan} (hh : HSound P E f0 h) (hr : CSound rest (CRG P E)) : CSound (hSel f0 h rest) (CRG P E) := by
  intro f as bx k r hk
  unfold hSel at hk
  cases hb : Nat.beq f f0 with
  | true =>
    rw [hb] at hk
    rw [Nat.beq_eq] at hb
    subst hb
    exact hh as bx k r hk
  | false =>
    rw [hb] at hk
    exact hr f as bx k r hk

/-! ### Taking values apart -/
def cI (κ : IntKind) (c : CV) (f : Int → Option RT) : Option RT := match c with
  | .sc (.int k n) => bif decide (k = κ) then f n else none
  | _ => none
def cB (c : CV) (f : Bool → Option RT) : Option RT := match c with
  | .sc (.bool b) => f b
  | _ => none
def cS (c : CV) (f : ByteArray → Option RT) : Option RT := match c with
  | .sc (.str b) => f b
  | _ => none
/-- Whole numbers that are read alone. -/
def cL (κ : IntKind) (c : CV) (f : List Int → Option RT) : Option RT := match c with
  | .sc (.ints k xs) => bif decide (k = κ) then f xs else none
  | .sc .nil => f []
  | _ => none
/-- Whole numbers that are given up. -/
def cLo (κ : IntKind) (c : CV) (f : List Int → Option RT) : Option RT := match c with
  | .ow (.ints k xs) => bif decide (k = κ) then f xs else none
  | .sc .nil => f []
  | _ => none
def cT (c : CV) (f : List ByteArray → Option RT) : Option RT := match c with
  | .sc (.strs xs) => f xs
  | .sc .nil => f []
  | _ => none
def cTo (c : CV) (f : List ByteArray → Option RT) : Option RT := match c with
  | .ow (.strs xs) => f xs
  | .sc .nil => f []
  | _ => none
def cR (c : CV) (f : List (List Int) → Option RT) : Option RT := match c with
  | .sc (.rows xs) => f xs
  | .sc .nil => f []
  | _ => none
def cRo (own : Bool) (c : CV) (f : List (List Int) → Option RT) : Option RT := match c with
  | .ow (.rows o xs) => bif (bif o then own else !own) then f xs else none
  | .sc .nil => f []
  | _ => none
def cA (κ : IntKind) (m : Nat) (c : CV) (f : List Int → Option RT) : Option RT := match c with
  | .sc (.arr k n xs) => bif decide (k = κ) && Nat.beq n m then f xs else none
  | _ => none
def natsEq : List Nat → List Nat → Bool
  | [], [] => true
  | a :: as, b :: bs => Nat.beq a b && natsEq as bs
  | _, _ => false
def cF (g : FuncId) (js : List Nat) (c : CV) (f : Unit → Option RT) : Option RT := match c with
  | .fn h ks => bif Nat.beq h g && natsEq ks js then f () else none
  | _ => none
def cP (j : Nat) (c : CV) (f : Unit → Option RT) : Option RT := match c with
  | .pt i => bif Nat.beq i j then f () else none
  | _ => none
def cN (c : CV) (f : Unit → Option RT) : Option RT := match c with
  | .nf => f ()
  | _ => none

variable {c : CV} {r : RT}
theorem cI_some {κ : IntKind} {f} (h : cI κ c f = some r) : ∃ n, CVle c (.sc (.int κ n)) ∧ f n = some r := by
  unfold cI at h
  split at h
  · rename_i k n
    cases hb : decide (k = κ) with
    | true => rw [hb] at h; have e := of_decide_eq_true hb; subst e; exact ⟨n, .inl rfl, h⟩
    | false => rw [hb] at h; cases h
  · cases h
theorem cB_some {f} (h : cB c f = some r) : ∃ b, CVle c (.sc (.bool b)) ∧ f b = some r := by
  unfold cB at h
  split at h
  · exact ⟨_, .inl rfl, h⟩
  · cases h
theorem cS_some {f} (h : cS c f = some r) : ∃ b, CVle c (.sc (.str b)) ∧ f b = some r := by
  unfold cS at h
  split at h
  · exact ⟨_, .inl rfl, h⟩
  · cases h
theorem cL_some {κ : IntKind} {f} (h : cL κ c f = some r) : ∃ xs, CVle c (.sc (.ints κ xs)) ∧ f xs = some r := by
  unfold cL at h
  split at h
  · rename_i k n
    cases hb : decide (k = κ) with
    | true => rw [hb] at h; have e := of_decide_eq_true hb; subst e; exact ⟨n, .inl rfl, h⟩
    | false => rw [hb] at h; cases h
  · exact ⟨[], .inr ⟨rfl, .inl ⟨_, rfl, rfl⟩⟩, h⟩
  · cases h
theorem cLo_some {κ : IntKind} {f} (h : cLo κ c f = some r) : ∃ xs, CVle c (.ow (.ints κ xs)) ∧ f xs = some r := by
  unfold cLo at h
  split at h
  · rename_i k n
    cases hb : decide (k = κ) with
    | true => rw [hb] at h; have e := of_decide_eq_true hb; subst e; exact ⟨n, .inl rfl, h⟩
    | false => rw [hb] at h; cases h
  · exact ⟨[], .inr ⟨rfl, .inr ⟨_, rfl, rfl⟩⟩, h⟩
  · cases h
theorem cT_some {f} (h : cT c f = some r) : ∃ xs, CVle c (.sc (.strs xs)) ∧ f xs = some r := by
  unfold cT at h
  split at h
  · exact ⟨_, .inl rfl, h⟩
  · exact ⟨[], .inr ⟨rfl, .inl ⟨_, rfl, rfl⟩⟩, h⟩
  · cases h
theorem cTo_some {f} (h : cTo c f = some r) : ∃ xs, CVle c (.ow (.strs xs)) ∧ f xs = some r := by
  unfold cTo at h
  split at h
  · exact ⟨_, .inl rfl, h⟩
  · exact ⟨[], .inr ⟨rfl, .inr ⟨_, rfl, rfl⟩⟩, h⟩
  · cases h
theorem cR_some {f} (h : cR c f = some r) : ∃ xs, CVle c (.sc (.rows xs)) ∧ f xs = some r := by
  unfold cR at h
  split at h
  · exact ⟨_, .inl rfl, h⟩
  · exact ⟨[], .inr ⟨rfl, .inl ⟨_, rfl, rfl⟩⟩, h⟩
  · cases h
theorem cRo_some {own : Bool} {f} (h : cRo own c f = some r) : ∃ xs, CVle c (.ow (.rows own xs)) ∧ f xs = some r := by
  unfold cRo at h
  split at h
  · rename_i o xs
    cases o <;> cases own <;> first | exact ⟨_, .inl rfl, h⟩ | cases h
  · exact ⟨[], .inr ⟨rfl, .inr ⟨_, rfl, rfl⟩⟩, h⟩
  · cases h
theorem cA_some {κ : IntKind} {m : Nat} {f} (h : cA κ m c f = some r) : ∃ xs, CVle c (.sc (.arr κ m xs)) ∧ f xs = some r := by
  unfold cA at h
  split at h
  · rename_i k n xs
    cases hb : (decide (k = κ) && Nat.beq n m) with
    | true =>
      rw [hb] at h
      simp only [Bool.and_eq_true, decide_eq_true_eq, Nat.beq_eq] at hb
      obtain ⟨rfl, rfl⟩ := hb
      exact ⟨xs, .inl rfl, h⟩
    | false => rw [hb] at h; cases h
  · cases h
theorem natsEq_iff : ∀ {as bs : List Nat}, natsEq as bs = true → as = bs
  | [], [], _ => rfl
  | a :: as, b :: bs, h => by
    simp only [natsEq, Bool.and_eq_true, Nat.beq_eq] at h
    rw [h.1, natsEq_iff h.2]
  | [], _ :: _, h => by cases h
  | _ :: _, [], h => by cases h
theorem cF_some {g : FuncId} {js : List Nat} {f} (h : cF g js c f = some r) : CVle c (.fn g js) ∧ f () = some r := by
  unfold cF at h
  split at h
  · rename_i k n
    cases hb : (Nat.beq k g && natsEq n js) with
    | true =>
      rw [hb] at h
      simp only [Bool.and_eq_true, Nat.beq_eq] at hb
      obtain ⟨rfl, e⟩ := hb
      rw [natsEq_iff e]
      exact ⟨.inl rfl, h⟩
    | false => rw [hb] at h; cases h
  · cases h
theorem cP_some {j : Nat} {f} (h : cP j c f = some r) : CVle c (.pt j) ∧ f () = some r := by
  unfold cP at h
  split at h
  · rename_i i
    cases hb : Nat.beq i j with
    | true =>
      rw [hb] at h
      rw [Nat.beq_eq] at hb
      subst hb
      exact ⟨.inl rfl, h⟩
    | false => rw [hb] at h; cases h
  · cases h
theorem cN_some {f} (h : cN c f = some r) : CVle c .nf ∧ f () = some r := by
  unfold cN at h
  split at h
  · exact ⟨.inl rfl, h⟩
  · cases h

/-! ### Naturality -/
theorem bif_bind {α β : Type} (b : Bool) (x y : Option α) (f : α → Option β) : (bif b then x else y).bind f = bif b then x.bind f else y.bind f := by cases b <;> rfl
theorem elim_bind {α α' β β' : Type} (g : α → Option β) (h : α' → Option β) (s : Sum α α') (f : β → Option β') : (Sum.elim g h s).bind f = Sum.elim (fun x => (g x).bind f) (fun x => (h x).bind f) s := by cases s <;> rfl

/-! ### A law's row -/
def lawO (w : World) : Lbl := fun g => if g < w.heap.size then .im else .no

theorem lawO_fresh (w : World) : ∀ g, w.heap.size ≤ g → lawO w g = .no := fun g hg => by unfold lawO; rw [if_neg (by omega)]

theorem cell_lt {w : World} {ad : Addr} {u : Value} (h : w.cell? ad = some u) : ad.block < w.heap.size := by
  rcases Nat.lt_or_ge ad.block w.heap.size with h' | h'
  · exact h'
  · simp [World.cell?, Array.getElem?_eq_none h'] at h

theorem law_calls {f : FuncId} {as : List CV} (h : CallSpec P E f as [] [.sc (.bool true)] []) (w : World) (vals : List Value) (hl : vals.length = as.length)
    (ha : ∀ (j : Nat) v c, vals[j]? = some v → as[j]? = some c → ∃ x, c = .sc x ∧ VP (lawO w) w v x) :
    Calls P f vals.toArray w fun e w' => e = .returned (.bool true) ∧ Below w.heap.size w w' := by
  refine (h (lawO w) (fun _ => 0) vals w (lawO_fresh w) hl (fun j v c h1 h2 => ?_) ⟨fun j hj => by simp at hj, fun j c hc => by simp at hc⟩).mono fun e w' hp => ?_
  · obtain ⟨x, rfl, hx⟩ := ha j v c h1 h2
    exact hx
  · obtain ⟨O', rv, rfl, hf, _, hlen, hres, _⟩ := hp
    match rv, hlen with
    | [v], _ =>
      have hv : v = .bool true := hres 0 v _ rfl rfl
      subst hv
      refine ⟨rfl, hf.os, hf.tape, hf.output, hf.size, fun k hk => (hf.im k ?_).2⟩
      unfold lawO; rw [if_pos hk]

/-- A row of the caller's, as the row's opening tells it. -/
theorem law_ints {k : IntKind} {w : World} {a : Option Addr} {len cap : Nat} {zs : List Int}
    (h : (a = none ∧ len = 0 ∧ cap = 0 ∧ zs = []) ∨ ∃ x, a = some x ∧ len ≤ cap ∧ cap ≤ maxLen ∧ zs.length = cap ∧ (∀ i, i < zs.length → w.cell? (x.add i) = some (.int k (zs.getD i 0))) ∧ ∀ n ∈ zs, (Lit.int k n).wf = true) :
    VP (lawO w) w (.slice a len cap) (.ints k (zs.take len)) := by
  rcases h with ⟨rfl, rfl, rfl, rfl⟩ | ⟨x, rfl, h1, h2, h3, h4, _⟩
  · exact ⟨none, 0, rfl, Nat.le_refl _, Nat.zero_le _, fun h => absurd rfl h⟩
  · have hl : (vints k (zs.take len)).length = len := by simp [vints]; omega
    have hcell : ∀ (j : Nat) u, (vints k (zs.take len))[j]? = some u → w.cell? (x.add j) = some u := by
      intro j u hu
      have hj : j < len := by rw [← hl]; exact (List.getElem?_eq_some_iff.1 hu).1
      rw [h4 j (by omega)]
      simp only [vints, List.getElem?_map, List.getElem?_take, if_pos hj] at hu
      have : zs[j]? = some zs[j] := List.getElem?_eq_getElem (by omega)
      rw [this] at hu
      simp only [Option.map_some, Option.some.injEq] at hu
      rw [← hu, List.getD_eq_getElem?_getD, this]
      rfl
    refine ⟨some x, cap, by rw [hl], by omega, by omega, fun hne => ⟨x, rfl, ?_, hcell⟩⟩
    have h0 : 0 < (vints k (zs.take len)).length := List.length_pos_iff.2 hne
    have := cell_lt (hcell 0 _ (List.getElem?_eq_getElem h0))
    have hb : (x.add 0).block = x.block := by unfold Addr.add; split <;> rfl
    rw [hb] at this
    unfold lawO; rw [if_pos this]
end
end Go.Tm
