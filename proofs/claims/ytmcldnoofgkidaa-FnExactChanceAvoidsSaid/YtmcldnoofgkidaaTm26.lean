/- The T-machine: calls: the labels behind a call. -/
import Derived.Test.YtmcldnoofgkidaaTm25
set_option linter.unusedVariables false
set_option linter.unusedSimpArgs false
namespace Go.Tm
open Go.RowKit

/-- The callee's labels under the caller's names: nr results, the boxes ks, the call's slot t. -/
def renC (t : Nat) (ks : List Key) (nr : Nat) : Lab → Lab
  | .ow σ p => if 500000000 ≤ σ ∧ σ < 500000000 + nr then .ow (resTok t (σ - 500000000)) p
    else if 300000000 ≤ σ ∧ σ < 300000000 + ks.length then .ow (boxTok t (σ - 300000000)) p else .no
  | .bx (.par j) => match ks[j]? with
    | some b => .bx b
    | none => .no
  | .bx (.own _) => .no
  | l => l

/-- The labels behind a call: what the callee could not write keeps the caller's. -/
def backO (O Oc O' : Lbl) (size : Nat) (ρ : Lab → Lab) : Lbl := fun g => if g < size ∧ (Oc g = .im ∨ Oc g = .no) then O g else ρ (O' g)

theorem renC_res {t nr i : Nat} {ks : List Key} {p : Option Nat} (h : i < nr) : renC t ks nr (.ow (resN i) p) = .ow (resTok t i) p := by
  have e : 500000000 ≤ resN i ∧ resN i < 500000000 + nr := by unfold resN; omega
  simp only [renC]
  rw [if_pos e]
  unfold resN
  rw [show 500000000 + i - 500000000 = i by omega]

theorem renC_box {t nr j : Nat} {ks : List Key} {p : Option Nat} (h : j < ks.length) (hs : ks.length < 100000000) : renC t ks nr (.ow (boxN j) p) = .ow (boxTok t j) p := by
  have e0 : boxN j = 300000000 + j := rfl
  have e1 : ¬ (500000000 ≤ boxN j ∧ boxN j < 500000000 + nr) := by rw [e0]; omega
  have e2 : 300000000 ≤ boxN j ∧ boxN j < 300000000 + ks.length := by rw [e0]; omega
  simp only [renC]
  rw [if_neg e1, if_pos e2, e0, show 300000000 + j - 300000000 = j by omega]

theorem renC_bx {t nr j : Nat} {ks : List Key} {b : Key} (h : ks[j]? = some b) : renC t ks nr (.bx (.par j)) = .bx b := by simp only [renC, h]

theorem back_old {O Oc O' : Lbl} {size g : Nat} {ρ : Lab → Lab} (hg : g < size) (h : Oc g = .im ∨ Oc g = .no) : backO O Oc O' size ρ g = O g := by
  unfold backO; rw [if_pos ⟨hg, h⟩]

theorem back_new {O Oc O' : Lbl} {size g : Nat} {ρ : Lab → Lab} (h : ¬ (g < size ∧ (Oc g = .im ∨ Oc g = .no))) : backO O Oc O' size ρ g = ρ (O' g) := by
  unfold backO; rw [if_neg h]

/-- What the callee owns or may write is none of the blocks that keep their labels. -/
theorem back_ow {O Oc O' : Lbl} {w w' : World} {ρ : Lab → Lab} (hf : Fr Oc w O' w') {g : Nat} {l : Lab} (h : O' g = l) (h1 : l ≠ .im) (h2 : l ≠ .no) : backO O Oc O' w.heap.size ρ g = ρ l := by
  rw [back_new, h]
  rintro ⟨hg, e | e⟩
  · have := (hf.im g e).1
    rw [h] at this; exact h1 this
  · have := (hf.no g hg e).1
    rw [h] at this; exact h2 this

section
variable {E : El} {w w' : World}

/-- What is owned alone needs nothing of what is read. -/
theorem VC.moveOwn {O O' : Lbl} {τ τ' : Nat} {v : Value} {c : Ct} (h : VC E O w τ v c) (hs : (∀ xss, c ≠ .rows false xss) ∨ ∀ g, O g = .im → O' g = .im) (how : ∀ g p, O g = .ow τ p → O' g = .ow τ' p) : VC E O' w τ' v c := by
  cases c with
  | ints k xs => exact SlO.keep h fun g hg _ => ⟨how g none hg, rfl⟩
  | strs xs => exact SlO.keep h fun g hg _ => ⟨how g none hg, rfl⟩
  | rows own xss =>
    obtain ⟨hs', h1, h2, h3⟩ := h
    refine ⟨hs', h1.keep fun g hg _ => ⟨how g none hg, rfl⟩, h2, fun j h xs hh hx => ?_⟩
    obtain ⟨a1, a2⟩ := h3 j h xs hh hx
    refine ⟨fun e => (a1 e).keep fun g hg _ => ⟨how g (some j) hg, rfl⟩, fun e => ?_⟩
    rcases hs with hs | hs
    · exact absurd (by rw [e]) (hs xss)
    · exact (a2 e).keep fun g hg => ⟨hs g hg, rfl⟩
  | hole k xss =>
    obtain ⟨hs', h1, h2, h3⟩ := h
    exact ⟨hs', h1.keep fun g hg _ => ⟨how g none hg, rfl⟩, h2, fun j h xs hj hh hx => (h3 j h xs hj hh hx).keep fun g hg _ => ⟨how g (some j) hg, rfl⟩⟩

/-- A value that was made by the call, under the caller's labels. -/
theorem own_back {O Oc O' : Lbl} {ρ : Lab → Lab} (hf : Fr Oc w O' w') {σ τ : Nat} {v : Value} {c : Ct} (h : VC E O' w' σ v c) (hρ : ∀ p, ρ (.ow σ p) = .ow τ p)
    (hs : (∀ xss, c ≠ .rows false xss) ∨ ∀ g, O' g = .im → backO O Oc O' w.heap.size ρ g = .im) : VC E (backO O Oc O' w.heap.size ρ) w' τ v c :=
  h.moveOwn hs fun g p hg => by rw [back_ow hf hg (by simp) (by simp), hρ]
end

end Go.Tm
