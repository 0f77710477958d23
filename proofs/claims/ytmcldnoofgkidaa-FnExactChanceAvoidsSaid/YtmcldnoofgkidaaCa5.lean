/- The law FnExactChanceAvoids: orders that avoid the patterns, told twice. -/
import Derived.Test.YtmcldnoofgkidaaCa4
set_option linter.unusedVariables false
set_option linter.unusedSimpArgs false
namespace Go.Proofs.Ytmcldnoofgkidaa
open Go Go.Tm Go.Pat
open Classical

def Av (ps : List (List Int)) (o : List Int) : Prop := ∀ p ∈ ps, ¬ In [] o p
noncomputable def av (ps : List (List Int)) (o : List Int) : Bool := decide (Av ps o)

def grow (s : Nat) (o : List Int) : List (List Int) := (List.range (s + 1)).map fun k => ins o (Int.ofNat (k + 1))
def allIns : Nat → List (List Int)
  | 0 => [[]]
  | s + 1 => (allIns s).flatMap (grow s)
noncomputable def avIns (ps : List (List Int)) : Nat → List (List Int)
  | 0 => [[]]
  | s + 1 => (avIns ps s).flatMap fun o => (grow s o).filter (av ps)

theorem filter_flatMap' {α β : Type} {P : α → Bool} {Q : β → Bool} {f : α → List β} : ∀ {l : List α}, (∀ a ∈ l, P a = false → ∀ b ∈ f a, Q b = false) → (l.flatMap f).filter Q = (l.filter P).flatMap fun a => (f a).filter Q
  | [], _ => rfl
  | a :: l, h => by
    have ih := filter_flatMap' (P := P) (Q := Q) (f := f) (l := l) fun x hx => h x (by simp [hx])
    rw [List.flatMap_cons, List.filter_append, ih, List.filter_cons]
    cases hP : P a with
    | true => simp
    | false =>
      have : (f a).filter Q = [] := by
        rw [List.filter_eq_nil_iff]
        intro b hb
        rw [h a (by simp) hP b hb]; simp
      simp [this]

theorem avIns_eq {ps : List (List Int)} (hp : ∀ p ∈ ps, Ord p) : ∀ s, avIns ps s = (allIns s).filter (av ps)
  | 0 => by
    have : av ps [] = true := by
      unfold av
      rw [decide_eq_true_iff]
      rintro p h ⟨t, h1, h2⟩
      have h3 : t = [] := List.eq_nil_of_sublist_nil h1
      subst h3
      have := (hp p h).lo
      rw [← h2] at this
      simp [shp] at this
    simp [avIns, allIns, this]
  | s + 1 => by
    rw [avIns, allIns, avIns_eq hp s]
    rw [filter_flatMap' (P := av ps)]
    intro o ho hf o' ho'
    simp only [grow, List.mem_map] at ho'
    obtain ⟨k, _, rfl⟩ := ho'
    simp only [av, decide_eq_false_iff_not] at hf ⊢
    intro h
    apply hf
    intro p h1 h2
    exact h p h1 (In_ins _ h2)

/-- What is small. -/
def Sm (s : Nat) (o : List Int) : Prop := o.length = s ∧ ∀ x ∈ o, 0 ≤ x ∧ x ≤ s

theorem allIns_sm : ∀ s o, o ∈ allIns s → Sm s o
  | 0, o, h => by simp [allIns] at h; subst h; exact ⟨rfl, by simp⟩
  | s + 1, o, h => by
    simp only [allIns, List.mem_flatMap, grow, List.mem_map, List.mem_range] at h
    obtain ⟨o', h1, k, h2, rfl⟩ := h
    obtain ⟨h3, h4⟩ := allIns_sm s o' h1
    refine ⟨by simp [ins, h3], fun x hx => ?_⟩
    simp only [ins, List.mem_append, List.mem_map, List.mem_singleton] at hx
    rcases hx with ⟨y, hy, rfl⟩ | rfl
    · have := h4 y hy
      unfold bump
      split <;> omega
    · simp only [Int.ofNat_eq_natCast]; omega

theorem flatMap_len {α β : Type} {f : α → List β} {c : Nat} : ∀ {l : List α}, (∀ a ∈ l, (f a).length ≤ c) → (l.flatMap f).length ≤ l.length * c
  | [], _ => by simp
  | a :: l, h => by
    have ih := flatMap_len (f := f) (c := c) (l := l) fun x hx => h x (by simp [hx])
    have := h a (by simp)
    rw [List.flatMap_cons, List.length_append, List.length_cons, Nat.succ_mul]
    omega

theorem allIns_len : ∀ s, s ≤ 6 → (allIns s).length ≤ 720 := by
  have h : ∀ s, (allIns (s + 1)).length ≤ (allIns s).length * (s + 1) := fun s => flatMap_len fun o _ => by simp [grow]
  have h0 : (allIns 0).length = 1 := rfl
  have h1 : (allIns 1).length ≤ (allIns 0).length * 1 := h 0
  have h2 : (allIns 2).length ≤ (allIns 1).length * 2 := h 1
  have h3 : (allIns 3).length ≤ (allIns 2).length * 3 := h 2
  have h4 : (allIns 4).length ≤ (allIns 3).length * 4 := h 3
  have h5 : (allIns 5).length ≤ (allIns 4).length * 5 := h 4
  have h6 : (allIns 6).length ≤ (allIns 5).length * 6 := h 5
  intro s hs
  match s, hs with
  | 0, _ => omega
  | 1, _ => omega
  | 2, _ => omega
  | 3, _ => omega
  | 4, _ => omega
  | 5, _ => omega
  | 6, _ => omega

section
variable {N : Nat}

theorem d221 {o : List Int} {k : Int} {s : Nat} (h : Sm s o) (hs : s ≤ 10) (hN : 1000 ≤ N) : D221 N o k = some (ins o k) := by
  unfold D221 T221
  have hl := h.1
  obtain ⟨b, h1, h2⟩ := gather0 (Lp := Lp221_3 N) (st := fun j (a : List Int) => (o, k, a, Int.ofNat j)) (len := o.length) (f := fun j a => a ++ [bump k (List.getD o j (Int.ofNat 0))])
    (rE := fun a => (o, k, a, Int.ofNat o.length, false)) (fun j a => a = (o.map (bump k)).take j)
    (fun n j a hj ha => by
      show L221_3 N _ (Lp221_3 N n) some = _
      unfold L221_3
      have hb := h.2 _ (List.getElem_mem hj)
      have e1 : ∀ x : Int, capB (a ++ [x]).length = true := fun x => n_cap (by rw [ha]; simp; omega)
      have e2 : wrapF .i64 (o[j] + Int.ofNat 1) = o[j] + 1 := by rw [w_id] <;> simp only [Int.ofNat_eq_natCast] <;> omega
      simp only [n_lt, n_in, n_nat, n_inc (show j < 4611686018427387904 by omega), hj, decide_true, cond_true, e1, getD_at hj, e2, bump, iLe_eq, bif_dec]
      by_cases e : k ≤ o[j] <;> simp only [e, if_true, if_false])
    (fun j a hj ha => by
      rw [ha, List.take_add_one, List.getElem?_eq_getElem (by simpa using hj)]
      simp only [List.getElem_map, Option.toList, getD_at hj])
    (fun n a ha => by
      show L221_3 N _ (Lp221_3 N n) some = _
      unfold L221_3
      simp only [n_lt, Nat.lt_irrefl, decide_false, cond_false]) (fuel := N) (a := []) (by omega) (by simp)
  have hb : b = o.map (bump k) := by rw [h2, List.take_of_length_le (by simp)]
  rw [h1, Option.bind_some, hb]
  have e : capB (o.map (bump k) ++ [k]).length = true := n_cap (by simp; omega)
  rw [e]
  rfl

theorem d222 {o : List Int} {ps : List (List Int)} (ho : o.length ≤ 10) (hN : 1000 ≤ N) (hp : Pats ps) : D222 N o ps = some (av ps o) := by
  unfold D222 T222
  have hl := hp.1
  have := scan0 (Lp := Lp222_2 N) (st := fun j => (o, ps, Int.ofNat j)) (len := ps.length) (P := fun j => decide (In [] o (List.getD ps j []))) (rI := fun _ => .inl ()) (rE := .inr (o, ps, Int.ofNat ps.length, false))
    (fun n j hj => by
      show L222_2 N _ (Lp222_2 N n) some = _
      unfold L222_2
      have e : D255 N o (List.getD ps j []) = some (decide (In [] o (List.getD ps j []))) := by
        rw [getD_at hj]
        exact d255 ho (by omega) (hp.2 _ (List.getElem_mem hj))
      simp only [n_lt, n_in, n_nat, n_inc (show j < 4611686018427387904 by omega), hj, decide_true, cond_true, e, Option.bind_some])
    (fun n => by
      show L222_2 N _ (Lp222_2 N n) some = _
      unfold L222_2
      simp only [n_lt, Nat.lt_irrefl, decide_false, cond_false]) (fuel := N) (by omega)
  rw [this, Option.bind_some]
  rw [firstP_dec (Q := ¬ Av ps o) (s1 := some false) (s2 := some true) (f := Sum.elim (fun _ => some false) (fun _ => some true))]
  · unfold av
    by_cases e : Av ps o <;> simp [e]
  · intro j hj hP
    refine ⟨fun h => ?_, rfl⟩
    rw [getD_at hj, decide_eq_true_iff] at hP
    exact h _ (List.getElem_mem hj) hP
  · intro hE
    refine ⟨fun hn => hn fun p h => ?_, rfl⟩
    obtain ⟨j, hj, rfl⟩ := List.mem_iff_getElem.1 h
    have := hE j hj
    rwa [getD_at hj, decide_eq_false_iff_not] at this

theorem d224x {o : List Int} {ps : List (List Int)} (ho : o.length ≤ 10) (hN : 1000 ≤ N) (hp : Pats ps) : D224x1 N ps o = some (!(av ps o), o) := by
  unfold D224x1 T224x1 D256x1 T256x1
  have hl := hp.1
  have := scan0 (Lp := Lp256x1_2 N) (st := fun j => (ps, Int.ofNat ps.length, Int.ofNat j, o)) (len := ps.length) (P := fun j => decide (In [] o (List.getD ps j []))) (rI := fun j => .inl (Int.ofNat j, o)) (rE := .inr (ps, Int.ofNat ps.length, Int.ofNat ps.length, false, o))
    (fun n j hj => by
      show L256x1_2 N _ (Lp256x1_2 N n) some = _
      unfold L256x1_2
      have e : D226 N (List.getD ps j []) o = some (decide (In [] o (List.getD ps j [])), o) := by
        unfold D226 T226
        rw [getD_at hj, d227 ho hN (hp.2 _ (List.getElem_mem hj))]
        rfl
      simp only [n_lt, n_in, n_nat, n_inc (show j < 4611686018427387904 by omega), hj, decide_true, cond_true, e, Option.bind_some])
    (fun n => by
      show L256x1_2 N _ (Lp256x1_2 N n) some = _
      unfold L256x1_2
      simp only [n_lt, Nat.lt_irrefl, decide_false, cond_false]) (fuel := N) (by omega)
  rw [this, Option.bind_some]
  rw [firstP_dec (Q := ¬ Av ps o) (s1 := some (true, o)) (s2 := some (false, o)) (f := fun r => (Sum.elim (fun (w4 : Int × List Int) => some (w4.1, w4.2)) (fun (w5 : List (List Int) × Int × Int × Bool × List Int) => some (Int.negSucc 0, w5.2.2.2.2)) r).bind fun r3 => some (iLe (Int.ofNat 0) r3.1, r3.2))]
  · unfold av
    by_cases e : Av ps o <;> simp [e]
  · intro j hj hP
    refine ⟨fun h => ?_, ?_⟩
    · rw [getD_at hj, decide_eq_true_iff] at hP
      exact h _ (List.getElem_mem hj) hP
    · simp only [Sum.elim_inl, Option.bind_some, n_le, Nat.zero_le, decide_true]
  · intro hE
    refine ⟨fun hn => hn fun p h => ?_, rfl⟩
    obtain ⟨j, hj, rfl⟩ := List.mem_iff_getElem.1 h
    have := hE j hj
    rwa [getD_at hj, decide_eq_false_iff_not] at this

theorem d223 {o : List Int} {ps : List (List Int)} (ho : o.length ≤ 10) (hN : 1000 ≤ N) (hp : Pats ps) : D223 N o ps = some (bif av ps o then Int.ofNat 1 else Int.ofNat 0, ps) := by
  unfold D223 T223 D138 T138 D139 T139
  rw [d224x ho hN hp]
  simp only [Option.bind_some, Bool.not_not]
  cases av ps o <;> rfl

/-! ### The orders that avoid, by insertions -/
theorem in10 {n : Int} {ps cur : List (List Int)} {s i : Nat} (hN : 100000 ≤ N) (hp : Pats ps) (hs : s ≤ 6) (hi : i < cur.length) (hc : ∀ o ∈ cur, Sm s o) (out : List (List Int)) (ho : out.length ≤ 50000) :
    Lp134_10 N N (n, ps, cur, Int.ofNat s, out, Int.ofNat i, Int.ofNat 1) = some (n, ps, cur, Int.ofNat s, out ++ (grow s (List.getD cur i [])).filter (av ps), Int.ofNat i, Int.ofNat (s + 1 + 1), false) := by
  have hsm := hc _ (List.getElem_mem hi)
  obtain ⟨b, h1, h2⟩ := gather0 (Lp := Lp134_10 N) (st := fun j (a : List (List Int)) => (n, ps, cur, Int.ofNat s, a, Int.ofNat i, Int.ofNat (j + 1))) (len := s + 1) (f := fun j a => bif av ps (ins cur[i] (Int.ofNat (j + 1))) then a ++ [ins cur[i] (Int.ofNat (j + 1))] else a)
    (rE := fun a => (n, ps, cur, Int.ofNat s, a, Int.ofNat i, Int.ofNat (s + 1 + 1), false)) (fun j a => a = out ++ ((List.range j).map fun k => ins cur[i] (Int.ofNat (k + 1))).filter (av ps) ∧ a.length ≤ out.length + j)
    (fun m j a hj ha => by
      show L134_10 N _ (Lp134_10 N m) some = _
      unfold L134_10
      have e1 : ∀ x : List Int, capB (a ++ [x]).length = true := fun x => n_cap (by simp; omega)
      have e2 : D221 N cur[i] (Int.ofNat (j + 1)) = _ := d221 hsm (by omega) (by omega)
      have e3 : D222 N (ins cur[i] (Int.ofNat (j + 1))) ps = _ := d222 (by simp [ins, hsm.1]; omega) (by omega) hp
      simp only [n_le, n_in, n_nat, n_inc (show j + 1 < 4611686018427387904 by omega), n_inc (show s < 4611686018427387904 by omega), hi, show j + 1 ≤ s + 1 by omega, decide_true, cond_true, getD_at hi, e1, e2, e3, Option.bind_some]
      cases av ps (ins cur[i] (Int.ofNat (j + 1))) <;> rfl)
    (fun j a hj ha => by
      obtain ⟨ha, hb⟩ := ha
      rw [List.range_succ, List.map_append, List.filter_append, ← List.append_assoc, ← ha]
      cases e : av ps (ins cur[i] (Int.ofNat (j + 1))) with
      | true => exact ⟨by simp only [List.map_cons, List.map_nil, List.filter_cons, e, if_true, cond_true, List.filter_nil], by simp; omega⟩
      | false => exact ⟨by simp only [List.map_cons, List.map_nil, List.filter_cons, e, cond_false, List.filter_nil, List.append_nil, Bool.false_eq_true, if_false], by simp; omega⟩)
    (fun m a ha => by
      show L134_10 N _ (Lp134_10 N m) some = _
      unfold L134_10
      simp only [n_le, n_inc (show s < 4611686018427387904 by omega), show ¬ (s + 1 + 1 ≤ s + 1) by omega, decide_false, cond_false]) (fuel := N) (a := out) (by omega) ⟨by simp, by simp⟩
  have := h2.1
  rw [show (Int.ofNat 1 : Int) = Int.ofNat (0 + 1) from rfl, h1, this, getD_at hi]
  rfl

theorem in7 {n : Int} {ps cur : List (List Int)} {s : Nat} (hN : 100000 ≤ N) (hp : Pats ps) (hs : s ≤ 6) (hl : cur.length ≤ 1000) (hc : ∀ o ∈ cur, Sm s o) :
    Lp134_7 N N (n, ps, cur, Int.ofNat s, [], Int.ofNat 0) = some (n, ps, cur, Int.ofNat s, cur.flatMap (fun o => (grow s o).filter (av ps)), Int.ofNat cur.length, false) := by
  obtain ⟨b, h1, h2⟩ := gather0 (Lp := Lp134_7 N) (st := fun j (a : List (List Int)) => (n, ps, cur, Int.ofNat s, a, Int.ofNat j)) (len := cur.length) (f := fun j a => a ++ (grow s (List.getD cur j [])).filter (av ps))
    (rE := fun a => (n, ps, cur, Int.ofNat s, a, Int.ofNat cur.length, false)) (fun j a => a = (cur.take j).flatMap (fun o => (grow s o).filter (av ps)) ∧ a.length ≤ j * (s + 1))
    (fun m j a hj ha => by
      show L134_7 N _ (Lp134_7 N m) some = _
      unfold L134_7
      have hb : a.length ≤ 50000 := by
        have : j * (s + 1) ≤ 1000 * 7 := Nat.mul_le_mul (by omega) (by omega)
        have := ha.2
        omega
      simp only [n_lt, hj, decide_true, cond_true, in10 hN hp hs hj hc a hb, Option.bind_some, n_inc (show j < 4611686018427387904 by omega)])
    (fun j a hj ha => by
      obtain ⟨ha, hb⟩ := ha
      refine ⟨?_, ?_⟩
      · rw [List.take_add_one, List.getElem?_eq_getElem hj, List.flatMap_append, ← ha, getD_at hj]
        simp [Option.toList]
      · have : ((grow s (List.getD cur j [])).filter (av ps)).length ≤ s + 1 := by
          refine Nat.le_trans (List.length_filter_le _ _) ?_
          simp [grow]
        rw [List.length_append, Nat.succ_mul]
        omega)
    (fun m a ha => by
      show L134_7 N _ (Lp134_7 N m) some = _
      unfold L134_7
      simp only [n_lt, Nat.lt_irrefl, decide_false, cond_false]) (fuel := N) (a := []) (by omega) (by simp)
  rw [h1, h2.1, List.take_length]

theorem d134 {ps : List (List Int)} {n : Nat} (hN : 100000 ≤ N) (hp : Pats ps) (hn : n ≤ 6) : D134 N (Int.ofNat n) ps = some ((allIns n).filter (av ps)) := by
  unfold D134 T134
  obtain ⟨b, h1, h2⟩ := gather0 (Lp := Lp134_3 N) (st := fun j (a : List (List Int)) => (Int.ofNat n, ps, a, Int.ofNat j)) (len := n) (f := fun j a => a.flatMap (fun o => (grow j o).filter (av ps)))
    (rE := fun a => (Int.ofNat n, ps, a, Int.ofNat n, false)) (fun j a => a = avIns ps j)
    (fun m j a hj ha => by
      show L134_3 N _ (Lp134_3 N m) some = _
      unfold L134_3
      have e : a = (allIns j).filter (av ps) := by rw [ha, avIns_eq hp.2]
      have hl : a.length ≤ 1000 := by
        rw [e]
        refine Nat.le_trans (List.length_filter_le _ _) ?_
        have := allIns_len j (by omega)
        omega
      have hc : ∀ o ∈ a, Sm j o := fun o ho => by
        rw [e] at ho
        exact allIns_sm j o ((List.mem_filter.1 ho).1)
      simp only [n_lt, hj, decide_true, cond_true, in7 hN hp (show j ≤ 6 by omega) hl hc, Option.bind_some, n_inc (show j < 4611686018427387904 by omega)])
    (fun j a hj ha => by rw [ha]; rfl)
    (fun m a ha => by
      show L134_3 N _ (Lp134_3 N m) some = _
      unfold L134_3
      simp only [n_lt, Nat.lt_irrefl, decide_false, cond_false]) (fuel := N) (a := [[]]) (by omega) rfl
  rw [h1, Option.bind_some, h2, avIns_eq hp.2]

/-! ### The same by counting -/
theorem count213 {n : Int} {ps os : List (List Int)} {z : List Int} (hN : 100000 ≤ N) (hp : Pats ps) (hl : os.length ≤ 1000) (ho : ∀ o ∈ os, o.length ≤ 10) :
    Lp213_3 N N (n, Int.ofNat 0, os, Int.ofNat os.length, Int.ofNat 0, z, ps) = some (n, Int.ofNat (os.countP (av ps)), os, Int.ofNat os.length, Int.ofNat os.length, false, z, ps) := by
  obtain ⟨b, h1, h2⟩ := gather0 (Lp := Lp213_3 N) (st := fun j (c : Nat) => (n, Int.ofNat c, os, Int.ofNat os.length, Int.ofNat j, z, ps)) (len := os.length) (f := fun j c => bif av ps (List.getD os j []) then c + 1 else c)
    (rE := fun c => (n, Int.ofNat c, os, Int.ofNat os.length, Int.ofNat os.length, false, z, ps)) (fun j c => c = (os.take j).countP (av ps) ∧ c ≤ j)
    (fun m j c hj hc => by
      show L213_3 N _ (Lp213_3 N m) some = _
      unfold L213_3
      have e : D223 N (List.getD os j []) ps = _ := d223 (by rw [getD_at hj]; exact ho _ (List.getElem_mem hj)) (by omega) hp
      have hc2 := hc.2
      simp only [n_lt, n_in, n_nat, hj, decide_true, cond_true, e, Option.bind_some, n_inc (show j < 4611686018427387904 by omega)]
      cases av ps (List.getD os j []) with
      | true => simp only [cond_true, n_inc (show c < 4611686018427387904 by omega)]
      | false =>
        simp only [cond_false]
        rw [w_id] <;> simp only [Int.ofNat_eq_natCast] <;> first | omega | rfl)
    (fun j c hj hc => by
      obtain ⟨hc, hb⟩ := hc
      rw [List.take_add_one, List.getElem?_eq_getElem hj, List.countP_append, ← hc, getD_at hj]
      cases e : av ps os[j] <;> simp [e] <;> omega)
    (fun m c hc => by
      show L213_3 N _ (Lp213_3 N m) some = _
      unfold L213_3
      simp only [n_lt, Nat.lt_irrefl, decide_false, cond_false]) (fuel := N) (a := 0) (by omega) (by simp)
  rw [h1, h2.1, List.take_length]
end
end Go.Proofs.Ytmcldnoofgkidaa
