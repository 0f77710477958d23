/- The law FnExactChanceAvoids: both chances, out of one table. -/
import Derived.Test.YtmcldnoofgkidaaCa5
set_option linter.unusedVariables false
set_option linter.unusedSimpArgs false
namespace Go.Proofs.Ytmcldnoofgkidaa
open Go Go.Tm Go.Pat

def eqZ : List Int → List Int → Bool
  | [], [] => true
  | a :: az, b :: bs => iEq a b && eqZ az bs
  | _, _ => false
theorem eqZ_iff : ∀ {a b : List Int}, eqZ a b = true → a = b
  | [], [], _ => rfl
  | a :: az, b :: bs, h => by
    simp only [eqZ, Bool.and_eq_true] at h
    rw [iEq_iff.1 h.1, eqZ_iff h.2]
  | [], _ :: _, h => by cases h
  | _ :: _, [], h => by cases h
def isZ (x : Option (List Int)) (o : List Int) : Bool := match x with
  | some y => eqZ y o
  | none => false
theorem isZ_iff {x : Option (List Int)} {o : List Int} (h : isZ x o = true) : x = some o := by
  unfold isZ at h
  split at h
  · rw [eqZ_iff h]
  · cases h

def chkO (N : Nat) (n : Int) : Nat → List (List Nat) → Bool
  | _, [] => true
  | k, e :: es => (isZ (D239 N n (Int.ofNat k)) (e.map Int.ofNat) && isZ (D210 N n (Int.ofNat k)) (e.map Int.ofNat)) && chkO N n (k + 1) es

theorem chkO_append {N : Nat} {n : Int} : ∀ {a b : List (List Nat)} {k : Nat}, chkO N n k a = true → chkO N n (k + a.length) b = true → chkO N n k (a ++ b) = true
  | [], b, k, _, h => h
  | e :: es, b, k, h1, h2 => by
    simp only [chkO, Bool.and_eq_true] at h1
    simp only [List.cons_append, chkO, Bool.and_eq_true]
    refine ⟨h1.1, chkO_append h1.2 ?_⟩
    rw [show k + 1 + es.length = k + (e :: es).length by simp; omega]
    exact h2

/-! ### The same orders -/
def eqN : List Nat → List Nat → Bool
  | [], [] => true
  | a :: az, b :: bs => bif Nat.beq a b then eqN az bs else false
  | _, _ => false
theorem eqN_iff : ∀ {a b : List Nat}, eqN a b = true → a = b
  | [], [], _ => rfl
  | a :: az, b :: bs, h => by
    simp only [eqN] at h
    cases e : Nat.beq a b with
    | true => rw [e] at h; rw [Nat.eq_of_beq_eq_true e, eqN_iff h]
    | false => rw [e] at h; cases h
  | [], _ :: _, h => by cases h
  | _ :: _, [], h => by cases h

def rm (x : List Nat) : List (List Nat) → Option (List (List Nat))
  | [] => none
  | y :: l => bif eqN x y then some l else (rm x l).map (y :: ·)
theorem rm_perm {x : List Nat} : ∀ {l l' : List (List Nat)}, rm x l = some l' → l.Perm (x :: l')
  | [], l', h => by cases h
  | y :: l, l', h => by
    simp only [rm] at h
    cases e : eqN x y with
    | true =>
      rw [e] at h
      injection h with h
      subst h
      rw [eqN_iff e]
    | false =>
      rw [e] at h
      simp only [cond_false, Option.map_eq_some_iff] at h
      obtain ⟨m, h1, rfl⟩ := h
      exact ((rm_perm h1).cons y).trans (List.Perm.swap _ _ _)
def permB : List (List Nat) → List (List Nat) → Bool
  | [], [] => true
  | x :: a, b => match rm x b with
    | some b' => permB a b'
    | none => false
  | [], _ :: _ => false
theorem permB_iff : ∀ {a b : List (List Nat)}, permB a b = true → a.Perm b
  | [], [], _ => List.Perm.refl _
  | x :: a, b, h => by
    simp only [permB] at h
    split at h
    · rename_i b' hb
      exact ((permB_iff h).cons x).trans (rm_perm hb).symm
    · cases h
  | [], _ :: _, h => by cases h

def bumpN (k x : Nat) : Nat := bif Nat.ble k x then x + 1 else x
def insN (o : List Nat) (k : Nat) : List Nat := o.map (bumpN k) ++ [k]
def allN : Nat → List (List Nat)
  | 0 => [[]]
  | s + 1 => (allN s).flatMap fun o => (List.range (s + 1)).map fun k => insN o (k + 1)

theorem insN_eq (o : List Nat) (k : Nat) : (insN o k).map Int.ofNat = ins (o.map Int.ofNat) (Int.ofNat k) := by
  simp only [insN, ins, List.map_append, List.map_map, List.map_cons, List.map_nil]
  congr 1
  refine List.map_congr_left fun x _ => ?_
  simp only [Function.comp, bumpN, bump]
  by_cases h : k ≤ x
  · rw [show Nat.ble k x = true from Nat.ble_eq_true_of_le h, if_pos (by simp only [Int.ofNat_eq_natCast]; omega)]; simp only [cond_true, Int.ofNat_eq_natCast]; omega
  · rw [show Nat.ble k x = false from by rw [Bool.eq_false_iff]; intro e; exact h (Nat.le_of_ble_eq_true e), if_neg (by simp only [Int.ofNat_eq_natCast]; omega)]; rfl

theorem allN_eq : ∀ s, (allN s).map (List.map Int.ofNat) = allIns s
  | 0 => rfl
  | s + 1 => by
    rw [allN, allIns, ← allN_eq s, List.map_flatMap, List.flatMap_map]
    congr 1
    funext o
    rw [grow, List.map_map]
    refine List.map_congr_left fun k _ => ?_
    exact insN_eq o (k + 1)

/-! ### The two parts of a chance -/
def gc (N : Nat) (L c : Nat) : Bool := match D251 N (Int.ofNat c) (Int.ofNat L) with
  | some f => isZ (D110 N (Int.ofNat c) (Int.ofNat L)) f
  | none => false
def gcAll (N : Nat) (L : Nat) : Nat → Bool
  | 0 => gc N L 0
  | c + 1 => gc N L (c + 1) && gcAll N L c
theorem gc_of {N L c : Nat} : ∀ {m : Nat}, gcAll N L m = true → c ≤ m → ∃ f, D251 N (Int.ofNat c) (Int.ofNat L) = some f ∧ D110 N (Int.ofNat c) (Int.ofNat L) = some f
  | 0, h, hc => by
    have : c = 0 := by omega
    subst this
    simp only [gcAll, gc] at h
    split at h
    · rename_i f hf; exact ⟨f, hf, isZ_iff h⟩
    · cases h
  | m + 1, h, hc => by
    simp only [gcAll, Bool.and_eq_true] at h
    by_cases e : c = m + 1
    · subst e
      have h := h.1
      simp only [gc] at h
      split at h
      · rename_i f hf; exact ⟨f, hf, isZ_iff h⟩
      · cases h
    · exact gc_of h.2 (by omega)

section
variable {N : Nat} {n : Int} {os : List (List Int)}

theorem caA (hD : ∀ (k : Nat) (h : k < os.length), D239 N n (Int.ofNat k) = some os[k]) (hlen : os.length ≤ 1000) (hN : 1000 < N) : Lp186_3 N N (n, [], Int.ofNat os.length, Int.ofNat 0) = some (n, os, Int.ofNat os.length, Int.ofNat os.length, false) := by
  obtain ⟨b, h1, h2⟩ := gather0 (Lp := Lp186_3 N) (st := fun j (a : List (List Int)) => (n, a, Int.ofNat os.length, Int.ofNat j)) (len := os.length) (f := fun j a => a ++ [List.getD os j []])
    (rE := fun a => (n, a, Int.ofNat os.length, Int.ofNat os.length, false)) (fun j a => a = os.take j)
    (fun m j a hj ha => by
      show L186_3 N _ (Lp186_3 N m) some = _
      unfold L186_3
      have e : capB (a ++ [os[j]]).length = true := n_cap (by rw [ha]; simp; omega)
      simp only [n_lt, hj, decide_true, cond_true, hD j hj, Option.bind_some, e, getD_at hj, n_inc (show j < 4611686018427387904 by omega)])
    (fun j a hj ha => by rw [ha, List.take_add_one, List.getElem?_eq_getElem hj, getD_at hj]; rfl)
    (fun m a ha => by
      show L186_3 N _ (Lp186_3 N m) some = _
      unfold L186_3
      simp only [n_lt, Nat.lt_irrefl, decide_false, cond_false]) (fuel := N) (a := []) (by omega) (by simp)
  rw [h1, h2, List.take_length]

theorem caB (hD : ∀ (k : Nat) (h : k < os.length), D210 N n (Int.ofNat k) = some os[k]) (hW : D209 N n = some (Int.ofNat os.length)) (hlen : os.length ≤ 1000) (hN : 1000 < N) : Lp108_3 N N (n, [], Int.ofNat 0) = some (n, os, Int.ofNat os.length, false) := by
  obtain ⟨b, h1, h2⟩ := gather0 (Lp := Lp108_3 N) (st := fun j (a : List (List Int)) => (n, a, Int.ofNat j)) (len := os.length) (f := fun j a => a ++ [List.getD os j []])
    (rE := fun a => (n, a, Int.ofNat os.length, false)) (fun j a => a = os.take j)
    (fun m j a hj ha => by
      show L108_3 N _ (Lp108_3 N m) some = _
      unfold L108_3
      have e : capB (a ++ [os[j]]).length = true := n_cap (by rw [ha]; simp; omega)
      simp only [hW, n_lt, hj, decide_true, cond_true, hD j hj, Option.bind_some, e, getD_at hj, n_inc (show j < 4611686018427387904 by omega)])
    (fun j a hj ha => by rw [ha, List.take_add_one, List.getElem?_eq_getElem hj, getD_at hj]; rfl)
    (fun m a ha => by
      show L108_3 N _ (Lp108_3 N m) some = _
      unfold L108_3
      simp only [hW, Option.bind_some, n_lt, Nat.lt_irrefl, decide_false, cond_false]) (fuel := N) (a := []) (by omega) (by simp)
  rw [h1, h2, List.take_length]
end

theorem chkO_at {N : Nat} {n : Int} : ∀ (t : List (List Nat)) (k j : Nat) (h : j < t.length), chkO N n k t = true → D239 N n (Int.ofNat (k + j)) = some (t[j].map Int.ofNat) ∧ D210 N n (Int.ofNat (k + j)) = some (t[j].map Int.ofNat) := by
  intro t
  induction t with
  | nil => intro k j h; simp at h
  | cons x t ih =>
    intro k j hj h
    simp only [chkO, Bool.and_eq_true] at h
    cases j with
    | zero => exact ⟨isZ_iff h.1.1, isZ_iff h.1.2⟩
    | succ j =>
      have := ih (k + 1) j (by simpa using hj) h.2
      rw [show k + 1 + j = k + (j + 1) by omega] at this
      exact this

open Classical in
/-- Both chances, out of one table. -/
theorem avoid_ok {N n : Nat} (tb : List (List Nat)) {ps : List (List Int)} (hN : 100000 ≤ N) (hp : Pats ps) (hn : n ≤ 6) (hlen : tb.length ≤ 1000) (hc : chkO N (Int.ofNat n) 0 tb = true)
    (h238 : D238 N (Int.ofNat n) = some (Int.ofNat tb.length)) (h209 : D209 N (Int.ofNat n) = some (Int.ofNat tb.length)) (hpm : permB (allN n) tb = true) (hg : gcAll N tb.length tb.length = true)
    (h107 : D107 N (Int.ofNat n) = some true) (h212 : D212 N (Int.ofNat n) = some true) :
    ∃ f, D32 N (Int.ofNat n) ps = some (f, true) ∧ D34 N (Int.ofNat n) ps = some (f, true) := by
  have hpl := hp.1
  let os := tb.map (List.map Int.ofNat)
  have hol : os.length = tb.length := by simp [os]
  have hperm : os.Perm (allIns n) := by
    rw [← allN_eq n]
    exact ((permB_iff hpm).map _).symm
  have hcount : ((allIns n).filter (av ps)).length = os.countP (av ps) := by
    rw [← List.countP_eq_length_filter]
    exact (hperm.countP_eq _).symm
  have hsm : ∀ o ∈ os, o.length ≤ 10 := fun o ho => by
    have := (allIns_sm n o (hperm.mem_iff.1 ho)).1
    omega
  have h239 : ∀ (k : Nat) (h : k < os.length), D239 N (Int.ofNat n) (Int.ofNat k) = some os[k] := fun k h => by
    have := (chkO_at tb 0 k (by omega) hc).1
    rw [Nat.zero_add] at this
    rw [this]
    simp [os]
  have h210 : ∀ (k : Nat) (h : k < os.length), D210 N (Int.ofNat n) (Int.ofNat k) = some os[k] := fun k h => by
    have := (chkO_at tb 0 k (by omega) hc).2
    rw [Nat.zero_add] at this
    rw [this]
    simp [os]
  have h186 : D186 N (Int.ofNat n) = some os := by
    unfold D186 T186
    rw [h238, Option.bind_some, ← hol, caA h239 (by omega) (by omega)]; rfl
  have h108 : D108 N (Int.ofNat n) = some os := by
    unfold D108 T108
    rw [caB h210 (by rw [hol]; exact h209) (by omega) (by omega)]; rfl
  have hcl : os.countP (av ps) ≤ tb.length := by rw [← hol]; exact List.countP_le_length
  obtain ⟨f, hf1, hf2⟩ := gc_of hg hcl
  have h213 : D213 N (Int.ofNat n) ps = some (f, ps) := by
    unfold D213 T213
    rw [h186, Option.bind_some, count213 hN hp (by omega) hsm]
    simp only [Option.bind_some, h238, hf1]
  refine ⟨f, ?_, ?_⟩
  · unfold D32 T32
    rw [h107, Option.bind_some, d133 (by omega) (by omega) (by omega)]
    simp only [Bool.not_true, Bool.not_false, cond_true, cond_false, Option.bind_some, decide_eq_true hp, d134 hN hp hn, h108, hcount, hol, hf2]
  · unfold D34 T34 D136 T136 D111 T111
    rw [d137 (by omega), h212]
    simp only [Bool.not_true, Bool.not_false, cond_true, cond_false, Option.bind_some, decide_eq_true hp, h213]

open Classical in
/-- Neither, where the patterns are none. -/
theorem avoid_no {N : Nat} {n : Int} {ps : List (List Int)} (hN : 100000 ≤ N) (hl : ps.length < N) (hs : ps.length < 4611686018427387904) {b : Bool} (h107 : D107 N n = some b) (h212 : D212 N n = some b) (h : b = false ∨ ¬ Pats ps) :
    D32 N n ps = some ([Int.ofNat 0, Int.ofNat 0], false) ∧ D34 N n ps = some ([Int.ofNat 0, Int.ofNat 0], false) := by
  constructor
  · unfold D32 T32
    rw [h107, Option.bind_some]
    cases b with
    | false => rfl
    | true =>
      have hn : ¬ Pats ps := by rcases h with h | h; cases h; exact h
      rw [d133 (by omega) hl hs]
      simp only [Bool.not_true, Bool.not_false, cond_true, cond_false, Option.bind_some, decide_eq_false hn]
  · unfold D34 T34 D136 T136 D111 T111
    rw [d137 (by omega), h212]
    cases b with
    | false => rfl
    | true =>
      have hn : ¬ Pats ps := by rcases h with h | h; cases h; exact h
      simp only [Bool.not_true, Bool.not_false, cond_true, cond_false, Option.bind_some, decide_eq_false hn]

theorem same13 {N : Nat} (hN : 1000 ≤ N) (a : List Int) : D13 N a a = some true := by
  unfold D13 T13
  obtain ⟨M, rfl⟩ : ∃ M, N = M + 3 := ⟨N - 3, by omega⟩
  have e : ∀ x : Int, iEq x x = true := fun x => iEq_iff.2 rfl
  have : Lp13_2 (M + 3) (M + 3) (Int.ofNat 0, a, a) = some (.inr (Int.ofNat 2, false, a, a)) := by
    show L13_2 (M + 3) _ (Lp13_2 (M + 3) (M + 2)) some = _
    unfold L13_2
    simp only [n_lt, n_in, e, show (0 : Nat) < 2 by omega, decide_true, cond_true, Bool.not_true, cond_false, n_inc (show 0 < 4611686018427387904 by omega)]
    show L13_2 (M + 3) _ (Lp13_2 (M + 3) (M + 1)) some = _
    unfold L13_2
    simp only [n_lt, n_in, e, Nat.zero_add, show (1 : Nat) < 2 by omega, decide_true, cond_true, Bool.not_true, cond_false, n_inc (show 1 < 4611686018427387904 by omega)]
    show L13_2 (M + 3) _ (Lp13_2 (M + 3) M) some = _
    unfold L13_2
    simp only [n_lt, show (1 + 1 : Nat) = 2 from rfl, Nat.lt_irrefl, decide_false, cond_false]
  rw [this]
  rfl

theorem law5 {N : Nat} {n : Int} {ps : List (List Int)} (hN : 2097152 ≤ N) (hp : ∀ p ∈ ps, p.length ≤ 9223372036854775807) (hl : ps.length ≤ 9223372036854775807)
    (h : ps.length ≤ 1048576 → ∃ r, D32 N n ps = some r ∧ D34 N n ps = some r) : D5 N n ps = some true := by
  unfold D5 T5
  obtain ⟨r, hr, hc⟩ := d31 hp hl hN
  rw [hr, Option.bind_some]
  rcases hc with hc | ⟨hc, h1, h2⟩
  · rw [hc]; rfl
  · obtain ⟨r, e1, e2⟩ := h h1
    have hpp : ∀ p ∈ ps, p.length < N ∧ p.length ≤ 4398046511104 := fun p hp' => by have := h2 p hp'; omega
    rw [hc, d33 (by omega) (by omega) hpp]
    simp only [cond_false, Option.bind_some, e1, e2, same13 (show 1000 ≤ N by omega), d35 (show ps.length < N by omega) (show ps.length ≤ 4398046511104 by omega) hpp, Bool.not_true, Bool.not_false, cond_true, beq_self_eq_true]
end Go.Proofs.Ytmcldnoofgkidaa
