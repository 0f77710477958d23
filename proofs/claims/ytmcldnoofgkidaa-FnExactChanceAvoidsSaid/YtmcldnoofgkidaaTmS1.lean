/- The T-machine: contracts of library functions, out of the kit's shelf: slices.Clone, slices.Delete at whole numbers. -/
import Derived.Test.YtmcldnoofgkidaaTm33
import Derived.Shelf.Slices.Delete
import Derived.Shelf.Slices.Clone
set_option linter.unusedVariables false
set_option linter.unusedSimpArgs false
namespace Go.Tm
open Go.RowKit Go.Proofs

section
variable {P : Program} {E : El}

theorem ownsRow_zero {w : World} {base : Nat} {e : TypeId} {v : Value} {n : Nat} {xs : List Value} (h : w.ownsRow base e 1 v n xs) : w.ownsRow 0 e 1 v n xs := by
  obtain ⟨h1, h2⟩ := h
  refine ⟨h1, ?_⟩
  rcases h2 with h | ⟨g, cap, cur, q1, q2, q3⟩
  · exact .inl h
  · exact .inr ⟨g, cap, cur, q1, Nat.zero_le _, q3⟩

/-- A row that the call made: the labels behind it. -/
def madeO (O : Lbl) (v : Value) (σ : Nat) : Lbl := fun g => if v.ownBlock = some g then .ow σ none else O g

theorem made_ok {O : Lbl} {w w' : World} {e : TypeId} {v : Value} {n : Nat} {xs : List Value} {σ : Nat} (hO : ∀ g, w.heap.size ≤ g → O g = .no) (h : w'.ownsRow w.heap.size e 1 v n xs) (hb : Below w.heap.size w w') :
    Fr O w (madeO O v σ) w' ∧ (∀ g, w'.heap.size ≤ g → madeO O v σ g = .no) ∧ SlO (madeO O v σ) w' (.ow σ none) e v xs := by
  have hnew : ∀ g, v.ownBlock = some g → w.heap.size ≤ g ∧ g < w'.heap.size := by
    intro g hg
    rcases h.2 with ⟨rfl, _⟩ | ⟨g', cap, cur, rfl, q2, q3, _⟩
    · simp [Value.ownBlock] at hg
    · simp [Value.ownBlock] at hg
      subst hg
      exact ⟨q2, (Array.getElem?_eq_some_iff.1 q3).1⟩
  have old : ∀ g, g < w.heap.size → madeO O v σ g = O g := by
    intro g hg
    unfold madeO
    rw [if_neg]
    intro e
    have := (hnew g e).1
    omega
  have lt : ∀ g l, O g = l → l ≠ .no → g < w.heap.size := by
    intro g l h1 h2
    rcases Nat.lt_or_ge g w.heap.size with h | h
    · exact h
    · rw [hO g h] at h1; exact absurd h1.symm h2
  refine ⟨⟨hb.os, hb.tape, hb.output, hb.size, fun g hg => ?_, fun g hg hn => ?_⟩, fun g hg => ?_, ?_, fun g hg => ?_⟩
  · have hl := lt g _ hg (by simp)
    exact ⟨by rw [old g hl, hg], hb.block g hl⟩
  · exact ⟨by rw [old g hg, hn], hb.block g hg⟩
  · unfold madeO
    rw [if_neg, hO g (by have := hb.size; omega)]
    intro e
    have := (hnew g e).2
    omega
  · have hl := h.1
    have : xs.length = n := by omega
    rw [this]
    exact ownsRow_zero h
  · unfold madeO; rw [if_pos hg]

def DClone (xs : List Int) : Option (List Int) := bif capB xs.length then some xs else none

theorem clone_ok {ρ : Shelf.Ren} (L : Lays2.n15 P ρ) (hE : ρ.t 3 = E.eI .i64) (xs ys : List Int) (h : DClone xs = some ys) : CallSpec P E (ρ.f 15) [.sc (.ints .i64 xs)] [] [.ow (.ints .i64 ys)] [] := by
  have h' : capB xs.length = true ∧ ys = xs := by
    unfold DClone at h
    cases hb : capB xs.length with
    | true => rw [hb] at h; injection h with h; exact ⟨rfl, h.symm⟩
    | false => rw [hb] at h; cases h
  obtain ⟨hcap, rfl⟩ := h'
  intro O B vals w hO hl ha hbx
  match vals, hl with
  | [v], _ =>
    have hv : SlI O w v (vints .i64 ys) := ha 0 v _ rfl rfl
    obtain ⟨a, cap, rfl, h1, h2, h3⟩ := hv
    have hcap' := capB_le hcap
    have hlen : (vints .i64 ys).length = ys.length := by simp [vints]
    have fin : ∀ {v' : Value} {w' : World}, w'.ownsRow w.heap.size (ρ.t 3) 1 v' ys.length (vints .i64 ys) → Below w.heap.size w w' →
        ∃ (O' : Lbl) (rv : List Value), Ending.returned v' = .returned (resVal rv) ∧ Fr O w O' w' ∧ (∀ g, w'.heap.size ≤ g → O' g = .no) ∧ rv.length = 1 ∧
        (∀ (j : Nat) x c, rv[j]? = some x → [CV.ow (.ints .i64 ys)][j]? = some c → CVR E O' w' B (resN j) x c) ∧ ([] : List CV).length = ([] : List CV).length ∧ BoxesR E O' w' B [] := by
      intro v' w' ho hb
      obtain ⟨q1, q2, q3⟩ := made_ok (σ := resN 0) hO ho hb
      refine ⟨_, [v'], rfl, q1, q2, rfl, fun j x c h1 h2 => ?_, rfl, ⟨fun j hj => by simp at hj, fun j c hc => by simp at hc⟩⟩
      cases j with
      | zero => simp at h1 h2; subst h1; subst h2; rw [hE] at q3; exact q3
      | succ j => simp at h1
    cases a with
    | none =>
      have hnil : ys = [] := by
        cases ys with
        | nil => rfl
        | cons y ys => obtain ⟨ad, e, _⟩ := h3 (by simp [vints]); cases e
      subst hnil
      refine (Any.slices_Clone_int_nil L _ cap w).mono ?_
      rintro e w' ⟨rfl, rfl⟩
      exact fin (World.ownsRow_nil _ _ _ _) (Below.refl _ _)
    | some ad =>
      by_cases hn : ys = []
      · subst hn
        refine (Any.slices_Clone_int_zero L ad cap w).mono ?_
        rintro e w' ⟨v', rfl, q1, _, q2⟩
        exact fin q1 q2
      · have hne : vints .i64 ys ≠ [] := by simpa [vints] using hn
        obtain ⟨ad', e, ho, hc⟩ := h3 hne
        injection e with e
        subst e
        have hpos : 0 < ys.length := List.length_pos_iff.2 hn
        have h0 := hc 0 (.int .i64 ys[0]) (by simp [vints, List.getElem?_eq_getElem hpos])
        have hs : ad.spot = none := by
          unfold Addr.add at h0
          rw [if_pos rfl] at h0
          unfold World.cell? at h0
          split at h0
          · cases hsp : ad.spot with
            | none => rfl
            | some x => rw [hsp] at h0; cases h0
          · cases h0
        obtain ⟨b, off, sp⟩ := ad
        simp only at hs
        subst hs
        have hcell : ∀ j, j < ys.length → w.cell? ⟨b, off + j, none⟩ = some (.int .i64 (ys.getD j 0)) := by
          intro j hj
          have := hc j (.int .i64 ys[j]) (by simp [vints, List.getElem?_eq_getElem hj])
          have e : (⟨b, off, none⟩ : Addr).add j = ⟨b, off + j, none⟩ := by
            unfold Addr.add
            split
            · rename_i h; subst h; rfl
            · rfl
          rw [e] at this
          rw [this, List.getD_eq_getElem?_getD, List.getElem?_eq_getElem hj]
          rfl
        rw [hlen]
        refine (Any.slices_Clone_int L b off ys.length cap ys w (Nat.le_refl _) (by omega) hcell).mono ?_
        rintro e w' ⟨v', rfl, q1, _, q2⟩
        rw [List.take_length] at q1
        exact fin q1 q2
  | [], h => simp at h
  | _ :: _ :: _, h => simp at h

def DDelete (xs : List Int) (i j : Int) : Option (List Int) :=
  bif Nat.blt 0 xs.length && (iLe 0 i && (iLe i j && iLe j (Int.ofNat xs.length))) then some (List.take i.toNat xs ++ List.drop j.toNat xs) else none

theorem putCells_at {α : Type} [Inhabited α] (enc : α → Value) (d : Array α) (c : Array Value) (k : Nat) (hk : k < c.size) : (Sort.putCells enc 0 d c)[k]? = some (if k < d.size then enc d[k]! else c[k]) := by
  unfold Sort.putCells
  rw [Array.getElem?_mapIdx, Array.getElem?_eq_getElem hk]
  simp

theorem delete_ok {ρ : Shelf.Ren} (L : Lays2.n23 P ρ) (hE : ρ.t 3 = E.eI .i64) (xs : List Int) (i j : Int) (ys : List Int) (h : DDelete xs i j = some ys) :
    CallSpec P E (ρ.f 23) [.ow (.ints .i64 xs), .sc (.int .i64 i), .sc (.int .i64 j)] [] [.ow (.ints .i64 ys)] [] := by
  have h' : (0 < xs.length ∧ 0 ≤ i ∧ i ≤ j ∧ j ≤ xs.length) ∧ ys = List.take i.toNat xs ++ List.drop j.toNat xs := by
    unfold DDelete at h
    cases hb : (Nat.blt 0 xs.length && (iLe 0 i && (iLe i j && iLe j (Int.ofNat xs.length)))) with
    | true =>
      rw [hb] at h
      injection h with h
      simp only [Bool.and_eq_true, Nat.blt_eq, iLe_iff] at hb
      exact ⟨⟨hb.1, hb.2.1, hb.2.2.1, hb.2.2.2⟩, h.symm⟩
    | false => rw [hb] at h; cases h
  obtain ⟨⟨p1, p2, p3, p4⟩, rfl⟩ := h'
  intro O B vals w hO hl ha hbx
  match vals, hl with
  | [v, vi, vj], _ =>
    have hv : SlO O w (.ow (argN 0) none) (E.eI .i64) v (vints .i64 xs) := ha 0 v _ rfl rfl
    have hi : vi = .int .i64 i := ha 1 vi _ rfl rfl
    have hj : vj = .int .i64 j := ha 2 vj _ rfl rfl
    subst hi; subst hj
    have hlen : (vints .i64 xs).length = xs.length := by simp [vints]
    obtain ⟨hrow, hlab⟩ := hv
    rw [hlen] at hrow
    have hrow' := hrow
    obtain ⟨_, hr⟩ := hrow
    rcases hr with ⟨_, hn⟩ | ⟨g, cap, cur, rfl, hbg, hg, r1, r2, r3, r4⟩
    · omega
    · obtain ⟨a, rfl⟩ := Int.eq_ofNat_of_zero_le p2
      obtain ⟨b, rfl⟩ := Int.eq_ofNat_of_zero_le (show 0 ≤ j by omega)
      have hab : a ≤ b := by omega
      have hb : b ≤ xs.length := by omega
      have hH : Sort.Holds (Value.int .i64) w g 0 xs.toArray := by
        intro k hk
        have hk' : k < xs.length := by simpa using hk
        have hc := hrow'.cells (g := g) rfl k (.int .i64 xs[k]) (by simp [vints, List.getElem?_eq_getElem hk'])
        rw [add0] at hc
        rw [Nat.zero_add]
        refine ⟨?_, World.ownsRow.frozenAt hrow' k⟩
        rw [hc, getElem!_pos xs.toArray k hk]
        simp
      have hcap63 : cap ≤ 9223372036854775807 := by simpa [maxLen] using r2
      refine (Any.slices_Delete_int L g 0 cap a b xs w hH r1 hcap63 hab hb).mono ?_
      rintro e w' ⟨rfl, q, rfl⟩
      have hlt : g < w.heap.size := (Array.getElem?_eq_some_iff.1 hg).1
      generalize hd : (List.take a xs ++ List.drop b xs ++ List.replicate (b - a) 0).toArray = d
      have hds : d.size = xs.length := by rw [← hd]; simp; omega
      have hgo : O g = .ow (argN 0) none := hlab g rfl
      have hheap : ∀ k, k ≠ g → (Sort.putRow (Value.int .i64) (Sort.ahead w q) g 0 d).heap[k]? = w.heap[k]? := by
        intro k hk
        show (w.heap.modify g _)[k]? = _
        rw [Array.getElem?_modify, if_neg (fun e => hk e.symm)]
      have hnew : (Sort.putRow (Value.int .i64) (Sort.ahead w q) g 0 d).heap[g]? = some (.cells (Sort.putCells (Value.int .i64) 0 d cur) (E.eI .i64) (0, 0)) := by
        show (w.heap.modify g _)[g]? = _
        rw [Array.getElem?_modify, if_pos rfl, hg]
        rfl
      have hcs : xs.length ≤ cur.size := by
        have h1 : (vints .i64 xs).length = (List.take (xs.length * 1) cur.toList).length := by rw [r4]
        rw [hlen] at h1
        simp at h1
        omega
      have hys : (List.take a xs ++ List.drop b xs).length = xs.length - (b - a) := by simp; omega
      refine ⟨fun k => if k = g then .ow (resN 0) none else O k, [_], rfl, ⟨rfl, rfl, rfl, ?_, fun k hk => ?_, fun k hk hn => ?_⟩, fun k hk => ?_, rfl, fun n x c h1 h2 => ?_, rfl, ⟨fun j hj => by simp at hj, fun j c hc => by simp at hc⟩⟩
      · show w.heap.size ≤ (w.heap.modify g _).size
        simp
      · have hne : k ≠ g := fun e => by subst e; rw [hgo] at hk; cases hk
        exact ⟨by simp [hne, hk], hheap k hne⟩
      · have hne : k ≠ g := fun e => by subst e; rw [hgo] at hn; cases hn
        exact ⟨by simp [hne, hn], hheap k hne⟩
      · have hk' : w.heap.size ≤ k := by
          have : (w.heap.modify g (Sort.onCells (Sort.putCells (Value.int .i64) 0 d))).size ≤ k := hk
          simpa using this
        have hne : k ≠ g := by omega
        simp [hne, hO k hk']
      · cases n with
        | succ n => simp at h1
        | zero =>
          simp at h1 h2
          subst h1; subst h2
          have hl2 : (vints .i64 (List.take a xs ++ List.drop b xs)).length = xs.length - (b - a) := by rw [show (vints .i64 (List.take a xs ++ List.drop b xs)).length = (List.take a xs ++ List.drop b xs).length by simp [vints], hys]
          refine ⟨?_, fun k hk => ?_⟩
          · show World.ownsRow _ _ _ _ _ (vints .i64 (List.take (Int.ofNat a).toNat xs ++ List.drop (Int.ofNat b).toNat xs)).length (vints .i64 (List.take (Int.ofNat a).toNat xs ++ List.drop (Int.ofNat b).toNat xs))
            simp only [Int.ofNat_eq_natCast, Int.toNat_natCast]
            rw [hl2]
            refine ⟨by omega, .inr ⟨g, cap, _, rfl, Nat.zero_le _, hnew, by omega, r2, ?_, ?_⟩⟩
            · have : (Sort.putCells (Value.int .i64) 0 d cur).size = cur.size := by simp [Sort.putCells]
              rw [this]; exact r3
            · apply List.ext_getElem?
              intro k
              rw [Nat.mul_one, List.getElem?_take]
              by_cases hk : k < xs.length - (b - a)
              · rw [if_pos hk, Array.getElem?_toList, putCells_at _ _ _ _ (by omega), if_pos (by omega)]
                have hk2 : k < d.size := by omega
                rw [getElem!_pos d k hk2]
                have : (vints .i64 (List.take a xs ++ List.drop b xs))[k]? = some (.int .i64 ((List.take a xs ++ List.drop b xs)[k]'(by omega))) := by
                  simp only [vints, List.getElem?_map]
                  rw [List.getElem?_eq_getElem (by omega)]
                  rfl
                rw [this]
                congr 2
                subst hd
                simp only [List.getElem_toArray]
                rw [List.getElem_append_left (by omega)]
              · rw [if_neg hk]
                symm
                rw [List.getElem?_eq_none_iff]
                omega
          · simp [Value.ownBlock] at hk
            subst hk
            simp
  | [], h => simp at h
  | [_], h => simp at h
  | [_, _], h => simp at h
  | _ :: _ :: _ :: _ :: _, h => simp at h
end
end Go.Tm
