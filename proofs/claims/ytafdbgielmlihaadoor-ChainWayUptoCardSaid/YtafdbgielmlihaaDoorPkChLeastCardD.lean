/- How the program of the layer chain looks for the cheapest way, in plain words: costs are lists of twelve numbers, read as one number to a large base. -/
import Derived.Test.YtafdbgielmlihaaDoorPkChLeastCardB
import Derived.Test.YtafdbgielmlihaaDoorPkChLeastCardA
namespace Go.Proofs.YtafdbgielmlihaaDoor
open Go.RowKit Go.Shelf

structure Stp where
  src : Int
  dst : Int
  sale : Int
  more : Int
structure Rch where
  is : Bool
  cost : List Int
  by' : Stp
def stepsGo (c : Chn) : Nat → List Sale → List Int → List Stp
  | i, x :: S, y :: m => (if y < x.bales then [⟨houseI c x.seller, houseI c x.buyer, i, 1⟩] else []) ++ ((if 0 < y then [⟨houseI c x.buyer, houseI c x.seller, i, -1⟩] else []) ++ stepsGo c (i + 1) S m)
  | _, _, _ => []
def stepsL (c : Chn) (m : List Int) : List Stp := stepsGo c 0 c.sales m
/-- The step as an arc, at the costs f. -/
def toArc (f : Nat → Int) (s : Stp) : Arc := ⟨s.src.toNat, s.dst.toNat, f s.sale.toNat * s.more, if 0 < s.more then 1 + s.sale else -1 - s.sale⟩
theorem steps_arcs (c : Chn) (f : Nat → Int) : ∀ (S : List Sale) (m : List Int) (i : Nat), (stepsGo c i S m).map (toArc f) = resArcs i (costed f i (S.map (salOf c))) m
  | [], m, i => by simp [stepsGo, costed, resArcs]
  | x :: S, [], i => by simp [stepsGo, costed, resArcs]
  | x :: S, y :: m, i => by
    simp only [stepsGo, List.map_cons, costed, resArcs, List.map_append, steps_arcs c f S m (i + 1), salOf]
    congr 1
    · split
      · simp [toArc]
      · rfl
    · congr 1
      split
      · simp [toArc]
      · rfl
theorem stepsL_arcs (c : Chn) (f : Nat → Int) (m : List Int) : (stepsL c m).map (toArc f) = resArcs 0 (salsAt c f) m := steps_arcs c f c.sales m 0
theorem steps_mem {c : Chn} : ∀ (S : List Sale) (m : List Int) (i : Nat) (s : Stp), s ∈ stepsGo c i S m → ∃ (j : Nat) (x : Sale) (y : Int), S[j]? = some x ∧ m[j]? = some y ∧ s.sale = ((i + j : Nat) : Int) ∧ ((s.src = houseI c x.seller ∧ s.dst = houseI c x.buyer ∧ s.more = 1 ∧ y < x.bales) ∨ (s.src = houseI c x.buyer ∧ s.dst = houseI c x.seller ∧ s.more = -1 ∧ 0 < y))
  | [], _, _, _, h => by simp [stepsGo] at h
  | _ :: _, [], _, _, h => by simp [stepsGo] at h
  | x :: S, y :: m, i, s, h => by
    unfold stepsGo at h
    rw [List.mem_append, List.mem_append] at h
    rcases h with h | h | h
    · split at h
      · simp only [List.mem_singleton] at h; subst h
        exact ⟨0, x, y, rfl, rfl, rfl, .inl ⟨rfl, rfl, rfl, by assumption⟩⟩
      · cases h
    · split at h
      · simp only [List.mem_singleton] at h; subst h
        exact ⟨0, x, y, rfl, rfl, rfl, .inr ⟨rfl, rfl, rfl, by assumption⟩⟩
      · cases h
    · obtain ⟨j, x', y', h1, h2, h3, h4⟩ := steps_mem S m (i + 1) s h
      exact ⟨j + 1, x', y', by simpa using h1, by simpa using h2, by rw [h3]; congr 1; omega, h4⟩
theorem steps_count (c : Chn) : ∀ (S : List Sale) (m : List Int) (i : Nat), (stepsGo c i S m).length ≤ 2 * S.length
  | [], _, _ => by simp [stepsGo]
  | _ :: _, [], _ => by simp [stepsGo]
  | x :: S, y :: m, i => by
    have := steps_count c S m (i + 1)
    unfold stepsGo
    simp only [List.length_append, List.length_cons]
    split <;> split <;> simp <;> omega
/-- What is known of a step. -/
structure StpOk (c : Chn) (s : Stp) : Prop where
  s0 : 0 ≤ s.src
  s1 : s.src < c.houses.length
  d0 : 0 ≤ s.dst
  d1 : s.dst < c.houses.length
  a0 : 0 ≤ s.sale
  a1 : s.sale < c.sales.length
  m : s.more = 1 ∨ s.more = -1
theorem stepsL_ok {c : Chn} (h : Right c) {m : List Int} {s : Stp} (hs : s ∈ stepsL c m) : StpOk c s := by
  obtain ⟨j, x, y, h1, _, h3, h4⟩ := steps_mem c.sales m 0 s hs
  obtain ⟨_, h5, h6, _⟩ := h.sale x (List.mem_of_getElem? h1)
  have a := houseI_lt h5
  have b := houseI_lt h6
  have hj : j < c.sales.length := (List.getElem?_eq_some_iff.1 h1).1
  rcases h4 with ⟨e1, e2, e3, _⟩ | ⟨e1, e2, e3, _⟩ <;> exact ⟨by omega, by omega, by omega, by omega, by omega, by omega, by omega⟩

def plusL (a d : List Int) (t : Int) : List Int := List.zipWith (fun x y => x + t * y) a d
def cmpL : List Int → List Int → Int
  | x :: a, y :: b => if x < y then -1 else if y < x then 1 else cmpL a b
  | [], [] => 0
  | [], _ :: _ => -1
  | _ :: _, [] => 1
theorem plusL_len (a d : List Int) (t : Int) : (plusL a d t).length = min a.length d.length := by simp [plusL]
theorem digits_plus (β t : Int) : ∀ (a d : List Int), a.length = d.length → digits β (plusL a d t) = digits β a + t * digits β d
  | [], [], _ => by simp [plusL, digits]
  | x :: a, y :: d, h => by
    have hl : a.length = d.length := by simpa using h
    have ih := digits_plus β t a d hl
    have h2 : (plusL a d t).length = a.length := by rw [plusL_len]; omega
    show (x + t * y) * β ^ (plusL a d t).length + digits β (plusL a d t) = _
    rw [ih, h2]
    simp only [digits, Int.add_mul, Int.mul_add]
    rw [hl, Int.mul_assoc]
    omega
  | [], _ :: _, h => by simp at h
  | _ :: _, [], h => by simp at h
/-- No entry is greater than K. -/
def Bd (K : Int) (a : List Int) : Prop := ∀ x ∈ a, -K ≤ x ∧ x ≤ K
theorem digits_abs : ∀ (a : List Int), Bd 800 a → - (1000 : Int) ^ a.length < digits 1000 a ∧ digits 1000 a < (1000 : Int) ^ a.length
  | [], _ => by simp [digits]
  | x :: a, h => by
    obtain ⟨h1, h2⟩ := digits_abs a fun y hy => h y (by simp [hy])
    obtain ⟨h3, h4⟩ := h x (by simp)
    have hp : 0 < (1000 : Int) ^ a.length := Int.pow_pos (by decide)
    have a1 : x * (1000 : Int) ^ a.length ≤ 800 * 1000 ^ a.length := Int.mul_le_mul_of_nonneg_right h4 (by omega)
    have a2 : (-800) * (1000 : Int) ^ a.length ≤ x * 1000 ^ a.length := Int.mul_le_mul_of_nonneg_right h3 (by omega)
    simp only [digits, List.length_cons, Int.pow_succ]
    omega
theorem cmp_digits : ∀ (a b : List Int), a.length = b.length → Bd 400 a → Bd 400 b → (cmpL a b < 0 ↔ digits 1000 a < digits 1000 b)
  | [], [], _, _, _ => by simp [cmpL, digits]
  | x :: a, y :: b, h, ha, hb => by
    have hl : a.length = b.length := by simpa using h
    have ih := cmp_digits a b hl (fun z hz => ha z (by simp [hz])) (fun z hz => hb z (by simp [hz]))
    have hd : digits 1000 (plusL a b (-1)) = digits 1000 a + -1 * digits 1000 b := digits_plus 1000 (-1) a b hl
    have hB : Bd 800 (plusL a b (-1)) := by
      intro z hz
      unfold plusL at hz
      rw [List.mem_iff_getElem?] at hz
      obtain ⟨k, hk⟩ := hz
      rw [List.getElem?_zipWith] at hk
      cases h1 : a[k]? with
      | none => rw [h1] at hk; simp at hk
      | some p =>
        cases h2 : b[k]? with
        | none => rw [h1, h2] at hk; simp at hk
        | some q =>
          rw [h1, h2] at hk
          simp at hk
          have := ha p (by simp [List.mem_of_getElem? h1])
          have := hb q (by simp [List.mem_of_getElem? h2])
          omega
    obtain ⟨d1, d2⟩ := digits_abs _ hB
    rw [plusL_len, ← hl, Nat.min_self] at d1 d2
    simp only [digits, cmpL, hl] at *
    have hp : 0 < (1000 : Int) ^ b.length := Int.pow_pos (by decide)
    rcases Int.lt_trichotomy x y with h1 | h1 | h1
    · rw [if_pos h1]
      have : (x + 1) * (1000 : Int) ^ b.length ≤ y * 1000 ^ b.length := Int.mul_le_mul_of_nonneg_right (by omega) (by omega)
      rw [Int.add_mul] at this
      constructor
      · intro _; omega
      · intro _; decide
    · subst h1
      rw [if_neg (by omega), if_neg (by omega), ih]
      constructor <;> intro _ <;> omega
    · rw [if_neg (by omega), if_pos h1]
      have : (y + 1) * (1000 : Int) ^ b.length ≤ x * 1000 ^ b.length := Int.mul_le_mul_of_nonneg_right (by omega) (by omega)
      rw [Int.add_mul] at this
      constructor
      · intro h; exact absurd h (by decide)
      · intro _; omega
  | [], _ :: _, h, _, _ => by simp at h
  | _ :: _, [], h, _, _ => by simp at h

/-- What is known of a house is bettered by a step. -/
def relaxR (C : List (List Int)) (l : List Rch) (s : Stp) : List Rch :=
  match l[s.src.toNat]?, l[s.dst.toNat]?, C[s.sale.toNat]? with
  | some a, some b, some d => if a.is && (!b.is || decide (cmpL (plusL a.cost d s.more) b.cost < 0)) then l.set s.dst.toNat ⟨true, plusL a.cost d s.more, s⟩ else l
  | _, _, _ => l
theorem relaxR_len (C : List (List Int)) (l : List Rch) (s : Stp) : (relaxR C l s).length = l.length := by
  unfold relaxR
  split
  · split <;> simp
  · rfl
theorem foldR_len (C : List (List Int)) : ∀ (L : List Stp) (l : List Rch), (L.foldl (relaxR C) l).length = l.length
  | [], _ => rfl
  | s :: L, l => by rw [List.foldl_cons, foldR_len C L, relaxR_len]
/-- The costs that are given: twelve numbers each, small. -/
structure Costs (f : Nat → Int) (C : List (List Int)) : Prop where
  l : ∀ (i : Nat) (d : List Int), C[i]? = some d → d.length = 12 ∧ Bd 1 d ∧ digits 1000 d = f i
/-- What is known, as small as K. -/
def Small (K : Int) (l : List Rch) : Prop := ∀ r ∈ l, r.cost.length = 12 ∧ Bd K r.cost
theorem Small.mono {K K' : Int} {l : List Rch} (h : Small K l) (hk : K ≤ K') : Small K' l := fun r hr => ⟨(h r hr).1, fun x hx => by have := (h r hr).2 x hx; omega⟩
theorem plus_bd {K t : Int} {a d : List Int} (ha : Bd K a) (hd : Bd 1 d) (ht : t = 1 ∨ t = -1) : Bd (K + 1) (plusL a d t) := by
  intro z hz
  unfold plusL at hz
  rw [List.mem_iff_getElem?] at hz
  obtain ⟨k, hk⟩ := hz
  rw [List.getElem?_zipWith] at hk
  cases h1 : a[k]? with
  | none => rw [h1] at hk; simp at hk
  | some p =>
    cases h2 : d[k]? with
    | none => rw [h1, h2] at hk; simp at hk
    | some q =>
      rw [h1, h2] at hk
      simp at hk
      have := ha p (List.mem_of_getElem? h1)
      have := hd q (List.mem_of_getElem? h2)
      rcases ht with rfl | rfl <;> omega
theorem Small.relax {K : Int} {f : Nat → Int} {C : List (List Int)} {l : List Rch} {s : Stp} (h : Small K l) (hC : Costs f C) (hs : s.more = 1 ∨ s.more = -1) : Small (K + 1) (relaxR C l s) := by
  unfold relaxR
  split
  · rename_i a b d ha hb hd
    split
    · intro r hr
      rcases List.mem_or_eq_of_mem_set hr with hr | rfl
      · exact h.mono (by omega) r hr
      · obtain ⟨c1, c2, _⟩ := hC.l _ _ hd
        obtain ⟨a1, a2⟩ := h a (List.mem_of_getElem? ha)
        exact ⟨by rw [plusL_len, a1, c1]; rfl, plus_bd a2 c2 hs⟩
    · exact h.mono (by omega)
  · exact h.mono (by omega)
theorem Small.fold {f : Nat → Int} {C : List (List Int)} (hC : Costs f C) : ∀ (L : List Stp) {K : Int} {l : List Rch}, (∀ s ∈ L, s.more = 1 ∨ s.more = -1) → Small K l → Small (K + L.length) (L.foldl (relaxR C) l)
  | [], K, l, _, h => h.mono (by simp)
  | s :: L, K, l, hL, h => by
    have := Small.fold hC L (fun t ht => hL t (by simp [ht])) (h.relax hC (hL s (by simp)))
    refine this.mono ?_
    simp only [List.length_cons]
    omega

/-- The list of what is known is what the passes know. -/
structure Corr (f : Nat → Int) (n : Nat) (l : List Rch) (σ : BF) : Prop where
  len : l.length = n
  d : ∀ (v : Nat) (r : Rch), l[v]? = some r → σ.d v = if r.is then some (digits 1000 r.cost) else none
  p : ∀ (v : Nat) (r : Rch), l[v]? = some r → σ.p v = if 0 ≤ r.by'.sale then some (toArc f r.by') else none
theorem Corr.relax {f : Nat → Int} {n : Nat} {l : List Rch} {σ : BF} {c : Chn} {C : List (List Int)} {s : Stp} {K : Int} (h : Corr f n l σ) (hC : Costs f C) (hK : Small K l) (hK4 : K + 1 ≤ 400) (hs : StpOk c s) (hn : n = c.houses.length) (hCl : C.length = c.sales.length) :
    Corr f n (relaxR C l s) (relax σ (toArc f s)) := by
  have hl := h.len
  have h1 : s.src.toNat < l.length := by have := hs.s0; have := hs.s1; omega
  have h2 : s.dst.toNat < l.length := by have := hs.d0; have := hs.d1; omega
  have h3 : s.sale.toNat < C.length := by have := hs.a0; have := hs.a1; omega
  have e1 := List.getElem?_eq_getElem h1
  have e2 := List.getElem?_eq_getElem h2
  have e3 := List.getElem?_eq_getElem h3
  generalize l[s.src.toNat] = a at *
  generalize l[s.dst.toNat] = b at *
  generalize C[s.sale.toNat] = d at *
  have d1 := h.d _ _ e1
  have d2 := h.d _ _ e2
  obtain ⟨c1, c2, c3⟩ := hC.l _ _ e3
  obtain ⟨a1, a2⟩ := hK a (List.mem_of_getElem? e1)
  obtain ⟨b1, b2⟩ := hK b (List.mem_of_getElem? e2)
  have dp : digits 1000 (plusL a.cost d s.more) = digits 1000 a.cost + (toArc f s).w := by
    rw [digits_plus _ _ _ _ (by rw [a1, c1]), c3]
    show _ = _ + f s.sale.toNat * s.more
    rw [Int.mul_comm (f _)]
  have hcmp := cmp_digits (plusL a.cost d s.more) b.cost (by rw [plusL_len, a1, c1, b1]; rfl) (fun x hx => by have := plus_bd a2 c2 hs.m x hx; omega) (fun x hx => by have := b2 x hx; omega)
  unfold relaxR Go.Proofs.YtafdbgielmlihaaDoor.relax
  rw [e1, e2, e3]
  show Corr f n _ (match σ.d s.src.toNat with | none => σ | some x => if lessO (x + (toArc f s).w) (σ.d s.dst.toNat) then ⟨upd σ.d s.dst.toNat (some (x + (toArc f s).w)), upd σ.p s.dst.toNat (some (toArc f s))⟩ else σ)
  simp only
  cases hai : a.is with
  | false =>
    rw [hai] at d1
    simp only [Bool.false_eq_true, if_false] at d1
    rw [d1]
    simpa using h
  | true =>
    rw [hai] at d1
    simp only [if_true] at d1
    rw [d1]
    simp only [Bool.true_and]
    have hless : (!b.is || decide (cmpL (plusL a.cost d s.more) b.cost < 0)) = lessO (digits 1000 a.cost + (toArc f s).w) (σ.d s.dst.toNat) := by
      rw [d2]
      cases hbi : b.is with
      | false => rfl
      | true =>
        simp only [if_true, lessO, Bool.not_true, Bool.false_or]
        rw [← dp]
        exact decide_eq_decide.2 hcmp
    rw [hless]
    cases hl2 : lessO (digits 1000 a.cost + (toArc f s).w) (σ.d s.dst.toNat) with
    | false => simpa using h
    | true =>
      simp only [if_true]
      refine ⟨by simpa using hl, fun v r hr => ?_, fun v r hr => ?_⟩
      · rw [List.getElem?_set] at hr
        by_cases hv : s.dst.toNat = v
        · subst hv
          rw [if_pos rfl, if_pos h2] at hr
          injection hr with hr
          subst hr
          simp only [upd_self, if_true, dp]
        · rw [if_neg hv] at hr
          show upd _ _ _ v = _
          rw [upd_ne _ _ (fun e => hv e.symm)]
          exact h.d v r hr
      · rw [List.getElem?_set] at hr
        by_cases hv : s.dst.toNat = v
        · subst hv
          rw [if_pos rfl, if_pos h2] at hr
          injection hr with hr
          subst hr
          simp only [upd_self]
          rw [if_pos hs.a0]
        · rw [if_neg hv] at hr
          show upd _ _ _ v = _
          rw [upd_ne _ _ (fun e => hv e.symm)]
          exact h.p v r hr
theorem Corr.fold {f : Nat → Int} {n : Nat} {c : Chn} {C : List (List Int)} (hC : Costs f C) (hn : n = c.houses.length) (hCl : C.length = c.sales.length) : ∀ (L : List Stp) {K : Int} {l : List Rch} {σ : BF}, (∀ s ∈ L, StpOk c s) → Small K l → K + L.length ≤ 400 → Corr f n l σ →
    Corr f n (L.foldl (relaxR C) l) ((L.map (toArc f)).foldl Go.Proofs.YtafdbgielmlihaaDoor.relax σ)
  | [], _, _, _, _, _, _, h => h
  | s :: L, K, l, σ, hL, hK, hk, h => by
    simp only [List.length_cons] at hk
    rw [List.map_cons, List.foldl_cons, List.foldl_cons]
    exact Corr.fold hC hn hCl L (fun t ht => hL t (by simp [ht])) (hK.relax hC (hL s (by simp)).m) (by omega) (h.relax hC hK (by omega) (hL s (by simp)) hn hCl)
/-- So many passes. -/
def passesR (C : List (List Int)) (L : List Stp) : Nat → List Rch → List Rch
  | 0, l => l
  | k + 1, l => L.foldl (relaxR C) (passesR C L k l)
theorem passesR_len (C : List (List Int)) (L : List Stp) (l : List Rch) : ∀ k, (passesR C L k l).length = l.length
  | 0 => rfl
  | k + 1 => by rw [passesR, foldR_len, passesR_len C L l k]
theorem passesR_small {f : Nat → Int} {C : List (List Int)} (hC : Costs f C) {L : List Stp} (hL : ∀ s ∈ L, s.more = 1 ∨ s.more = -1) {l : List Rch} (h : Small 0 l) : ∀ k : Nat, Small (k * L.length : Nat) (passesR C L k l)
  | 0 => by simpa [passesR] using h
  | k + 1 => by
    refine (Small.fold hC L hL (passesR_small hC hL h k)).mono ?_
    rw [Nat.succ_mul]
    omega
theorem passesR_corr {f : Nat → Int} {n : Nat} {c : Chn} {C : List (List Int)} (hC : Costs f C) (hn : n = c.houses.length) (hCl : C.length = c.sales.length) {L : List Stp} (hL : ∀ s ∈ L, StpOk c s) {l : List Rch} {σ : BF} (h0 : Small 0 l) (h : Corr f n l σ) :
    ∀ k : Nat, k * L.length ≤ 400 → Corr f n (passesR C L k l) (passes (L.map (toArc f)) k σ)
  | 0, _ => h
  | k + 1, hk => by
    rw [Nat.succ_mul] at hk
    exact Corr.fold hC hn hCl L hL (passesR_small hC (fun s hs => (hL s hs).m) h0 k) (by omega) (passesR_corr hC hn hCl hL h0 h k (by omega))
/-- Houses that owe are come to for nothing. -/
def initR (left : List Int) : List Rch := left.map fun n => ⟨decide (n < 0), List.replicate 12 0, ⟨0, 0, -1, 0⟩⟩
theorem digits_zero (β : Int) : ∀ k, digits β (List.replicate k 0) = 0
  | 0 => rfl
  | k + 1 => by rw [List.replicate_succ, digits, digits_zero β k]; omega
theorem initR_small (left : List Int) : Small 0 (initR left) := by
  intro r hr
  unfold initR at hr
  obtain ⟨n, _, rfl⟩ := List.mem_map.1 hr
  exact ⟨by simp, fun x hx => by have := List.eq_of_mem_replicate hx; omega⟩
theorem initR_corr (f : Nat → Int) (left : List Int) (T : Nat → Bool) (h : ∀ (v : Nat) (y : Int), left[v]? = some y → T v = decide (y < 0)) : Corr f left.length (initR left) (init0 T) := by
  refine ⟨by simp [initR], fun v r hr => ?_, fun v r hr => ?_⟩
  · unfold initR at hr
    rw [List.getElem?_map] at hr
    obtain ⟨y, hy, rfl⟩ := Option.map_eq_some_iff.1 hr
    simp only [init0, h v y hy, digits_zero, decide_eq_true_eq]
  · unfold initR at hr
    rw [List.getElem?_map] at hr
    obtain ⟨y, hy, rfl⟩ := Option.map_eq_some_iff.1 hr
    simp [init0]
end Go.Proofs.YtafdbgielmlihaaDoor
/- The end of a region that drew its order: the frame that came in, the region's own slots put in. -/
namespace Go.Proofs.YtafdbgielmlihaaDoor
open Go.RowKit Go.Shelf

/-- The frame l with what ρ gives put into the slots of F. -/
def putF (ρ : Operand → Value) : Facts → List Value → List Value
  | [], l => l
  | (some d, _) :: F, l => putF ρ F (l.set d (ρ (.tmp d)))
  | (none, _) :: F, l => putF ρ F l
theorem putF_len (ρ : Operand → Value) : ∀ (F : Facts) (l : List Value), (putF ρ F l).length = l.length
  | [], l => rfl
  | (some d, _) :: F, l => by rw [putF, putF_len ρ F, List.length_set]
  | (none, _) :: F, l => by rw [putF, putF_len ρ F]
theorem putF_in (ρ : Operand → Value) : ∀ (F : Facts) (l : List Value) (j : Nat), j < l.length → (some j ∈ F.map (·.1) ∨ l[j]? = some (ρ (.tmp j))) → (putF ρ F l)[j]? = some (ρ (.tmp j))
  | [], l, j, _, h => by rw [putF]; simpa using h
  | (some d, U) :: F, l, j, hj, h => by
    rw [putF]
    refine putF_in ρ F _ j (by rw [List.length_set]; exact hj) ?_
    by_cases e : d = j
    · subst e
      right
      rw [List.getElem?_set_self hj]
    · rcases h with h | h
      · rw [List.map_cons, List.mem_cons] at h
        rcases h with h | h
        · injection h with h
          exact absurd h.symm e
        · exact .inl h
      · right
        rw [List.getElem?_set_ne e]
        exact h
  | (none, U) :: F, l, j, hj, h => by
    rw [putF]
    refine putF_in ρ F _ j hj ?_
    rcases h with h | h
    · rw [List.map_cons, List.mem_cons] at h
      rcases h with h | h
      · cases h
      · exact .inl h
    · exact .inr h
section
variable {P : Program} {C : World → Prop} {R : World → World → Prop} {a0 : Act} {ds : List (Option Tmp)} {Q : Act → World → Prop} {n : Nat} {F : Facts}
theorem tame_end_put (hds : F.map (·.1) = ds) (hn : n = F.length) (h : ∀ ρ W, C W → Rd a0 ds ρ → allF F ρ W → Q { tmps := (putF ρ F a0.tmps.toList).toArray, defers := a0.defers } W) : wpTame P C R ds a0 Q n [] F := by
  intro A W hC hS hF
  have hA : A = { tmps := (putF A.eval F a0.tmps.toList).toArray, defers := a0.defers } := by
    obtain ⟨h1, h2, h3⟩ := hS
    obtain ⟨tmps, defers⟩ := A
    simp only at h1 h2
    subst h1
    congr 1
    apply Array.ext_getElem?
    intro j
    by_cases hj : j < tmps.size
    · have e : (Act.mk tmps a0.defers).eval (.tmp j) = tmps[j] := by simp [Act.eval, hj]
      have hp : (putF (Act.mk tmps a0.defers).eval F a0.tmps.toList).toArray[j]? = some tmps[j] := by
        rw [List.getElem?_toArray, putF_in _ F _ j (by simpa using h2 ▸ hj), e]
        by_cases hm : some j ∈ F.map (·.1)
        · exact .inl hm
        · right
          have hni : notIn ds j = true := by
            unfold notIn
            rw [List.all_eq_true]
            intro d hd
            rw [← hds] at hd
            simp only [bne_iff_ne, ne_eq]
            intro e2
            exact hm (e2 ▸ hd)
          rw [h3 j hni]
          have hj2 : j < a0.tmps.size := h2 ▸ hj
          simp [Act.eval, hj2]
      rw [hp]; simp [hj]
    · rw [Array.getElem?_eq_none (by omega), List.getElem?_toArray, List.getElem?_eq_none (by rw [putF_len]; simp; omega)]
  rw [hA]
  exact h A.eval W hC (Rd.of hS) (allF_of _ _ _ (hn ▸ hF))
end
end Go.Proofs.YtafdbgielmlihaaDoor
/- How the program's passes and its way back are the plain ones: no program in sight. -/
namespace Go.Proofs.YtafdbgielmlihaaDoor
open Go.RowKit Go.Shelf

theorem chain_snoc {p : Nat → Option Arc} : ∀ (j : Nat) (v u : Nat) (a : Arc), backK p j v = some u → p u = some a → chainArcs p (j + 1) v = chainArcs p j v ++ [a]
  | 0, v, u, a, h, ha => by
    have : v = u := by simpa [backK] using h
    subst this
    simp [chainArcs, ha]
  | j + 1, v, u, a, h, ha => by
    unfold backK at h
    cases hv : p v with
    | none => rw [hv] at h; cases h
    | some b =>
      rw [hv] at h
      have ih := chain_snoc j b.src u a h ha
      have e1 : chainArcs p (j + 1 + 1) v = b :: chainArcs p (j + 1) b.src := by rw [chainArcs, hv]
      have e2 : chainArcs p (j + 1) v = b :: chainArcs p j b.src := by rw [chainArcs, hv]
      rw [e1, e2, ih]
      rfl
theorem back_snoc {p : Nat → Option Arc} {j v u : Nat} {a : Arc} (h : backK p j v = some u) (ha : p u = some a) : backK p (j + 1) v = some a.src := by
  rw [back_add, h]
  show backK p 1 u = _
  simp [backK, ha]
theorem back_end {p : Nat → Option Arc} {j k v u r : Nat} (h : backK p j v = some u) (hu : p u = none) (hk : backK p k v = some r) (hjk : j ≤ k) : j = k ∧ u = r := by
  by_cases e : j = k
  · subst e
    rw [h] at hk
    injection hk with hk
    exact ⟨rfl, hk⟩
  · have h1 := back_add p j (k - j) v
    rw [h, show j + (k - j) = k by omega, hk] at h1
    obtain ⟨d, hd⟩ : ∃ d, k - j = d + 1 := ⟨k - j - 1, by omega⟩
    rw [hd] at h1
    change some r = backK p (d + 1) u at h1
    rw [backK, hu] at h1
    cases h1
theorem back_not_end {p : Nat → Option Arc} {j k v u r : Nat} {a : Arc} (h : backK p j v = some u) (hu : p u = some a) (hk : backK p k v = some r) (hr : p r = none) (hjk : j ≤ k) : j < k := by
  by_cases e : j = k
  · subst e
    rw [h] at hk
    injection hk with hk
    subst hk
    rw [hu] at hr
    cases hr
  · omega
theorem walked_snoc (m : List Int) (L : List Arc) (a : Arc) : walked m (L ++ [a]) = stepM (walked m L) a := by simp [walked]
theorem toArc_step (f : Nat → Int) (s : Stp) (m : List Int) (h0 : 0 ≤ s.sale) (hm : s.more = 1 ∨ s.more = -1) : stepM m (toArc f s) = bump m s.sale.toNat s.more := by
  unfold stepM toArc
  simp only
  rcases hm with h | h
  · rw [h, if_pos (show (0 : Int) < 1 by decide), if_pos (by omega), show (1 + s.sale - 1).toNat = s.sale.toNat by omega]
  · rw [h, if_neg (show ¬ (0 : Int) < -1 by decide), if_neg (by omega), show (-1 - (-1 - s.sale)).toNat = s.sale.toNat by omega]
theorem bump_set {m : List Int} {i : Nat} {y δ : Int} (h : m[i]? = some y) : bump m i δ = m.set i (y + δ) := by
  apply List.ext_getElem?
  intro j
  rw [bump_get, List.getElem?_set]
  by_cases e : i = j
  · subst e
    rw [if_pos rfl, if_pos (List.getElem?_eq_some_iff.1 h).1, h]
    simp
  · rw [if_neg e]
    simp [e]
/-- The steps that are known are steps. -/
def OkR (c : Chn) (R : List Rch) : Prop := ∀ r ∈ R, 0 ≤ r.by'.sale → StpOk c r.by'
theorem OkR.init (c : Chn) (left : List Int) : OkR c (initR left) := by
  intro r hr h
  unfold initR at hr
  obtain ⟨n, _, rfl⟩ := List.mem_map.1 hr
  simp at h
theorem OkR.relax {c : Chn} {C : List (List Int)} {R : List Rch} {s : Stp} (h : OkR c R) (hs : StpOk c s) : OkR c (relaxR C R s) := by
  unfold relaxR
  split
  · split
    · intro r hr h0
      rcases List.mem_or_eq_of_mem_set hr with hr | rfl
      · exact h r hr h0
      · exact hs
    · exact h
  · exact h
theorem OkR.fold {c : Chn} {C : List (List Int)} : ∀ (L : List Stp) {R : List Rch}, OkR c R → (∀ s ∈ L, StpOk c s) → OkR c (L.foldl (relaxR C) R)
  | [], _, h, _ => h
  | s :: L, R, h, hs => OkR.fold L (h.relax (hs s (by simp))) fun t ht => hs t (by simp [ht])
theorem OkR.passes {c : Chn} {C : List (List Int)} {L : List Stp} (hs : ∀ s ∈ L, StpOk c s) {R : List Rch} (h : OkR c R) : ∀ k, OkR c (passesR C L k R)
  | 0 => h
  | k + 1 => OkR.fold L (OkR.passes hs h k) hs
theorem bump_bd {B : Int} {m : List Int} {i : Nat} {δ : Int} (h : ∀ y ∈ m, -B ≤ y ∧ y ≤ B) (hδ : δ = 1 ∨ δ = -1) : ∀ y ∈ bump m i δ, -(B + 1) ≤ y ∧ y ≤ B + 1 := by
  intro y hy
  obtain ⟨k, hk⟩ := List.getElem?_of_mem hy
  rw [bump_get] at hk
  obtain ⟨z, hz, rfl⟩ := Option.map_eq_some_iff.1 hk
  have := h z (List.mem_of_getElem? hz)
  split <;> rcases hδ with rfl | rfl <;> omega
theorem stepM_bd {B : Int} {m : List Int} (a : Arc) (h : ∀ y ∈ m, -B ≤ y ∧ y ≤ B) : ∀ y ∈ stepM m a, -(B + 1) ≤ y ∧ y ≤ B + 1 := by
  unfold stepM
  split
  · exact bump_bd h (.inl rfl)
  · exact bump_bd h (.inr rfl)
theorem walked_bd : ∀ (L : List Arc) {B : Int} {m : List Int}, (∀ y ∈ m, -B ≤ y ∧ y ≤ B) → ∀ y ∈ walked m L, -(B + L.length) ≤ y ∧ y ≤ B + L.length
  | [], B, m, h, y, hy => by have := h y hy; simp; omega
  | a :: L, B, m, h, y, hy => by
    have := walked_bd L (stepM_bd a h) y hy
    simp only [List.length_cons]
    omega
theorem chain_len (p : Nat → Option Arc) : ∀ (k v : Nat), (chainArcs p k v).length ≤ k
  | 0, _ => by simp [chainArcs]
  | k + 1, v => by
    unfold chainArcs
    split
    · simp
    · rename_i a _
      have := chain_len p k a.src
      simp; omega
end Go.Proofs.YtafdbgielmlihaaDoor
/- What holds between two bales of market.closed: no program in sight. -/
namespace Go.Proofs.YtafdbgielmlihaaDoor
open Go.RowKit Go.Shelf

def leftL (c : Chn) (f : Nat → Int) (M : List Int) : List Int := (List.range c.houses.length).map fun v => leftI (salsAt c f) (balesOf c) M v
structure Inv0 (c : Chn) (f : Nat → Int) (M left : List Int) : Prop where
  F : Feas (salsAt c f) M
  p : ∃ π, Pot (resArcs 0 (salsAt c f) M) π
  l : left = leftL c f M
theorem leftL_len (c : Chn) (f : Nat → Int) (M : List Int) : (leftL c f M).length = c.houses.length := by simp [leftL]
theorem leftL_get {c : Chn} {f : Nat → Int} {M : List Int} {v : Nat} (h : v < c.houses.length) : (leftL c f M)[v]? = some (leftI (salsAt c f) (balesOf c) M v) := by simp [leftL, h]
theorem net_zero (v : Nat) : ∀ (S : List Sal) (k : Nat), net S (List.replicate k 0) v = 0
  | [], _ => by simp [net]
  | _ :: _, 0 => by simp [net]
  | x :: S, k + 1 => by rw [List.replicate_succ, net, net_zero v S k]; simp
theorem net_at (c : Chn) (f : Nat → Int) (M : List Int) (v : Nat) : net (salsAt c f) M v = net (salsOf c) M v := costed_net f v _ 0 M
theorem feas_zero : ∀ (S : List Sal), (∀ x ∈ S, 0 ≤ x.cap) → Feas S (List.replicate S.length 0)
  | [], _ => trivial
  | x :: S, h => ⟨⟨Int.le_refl _, h x (by simp)⟩, feas_zero S fun y hy => h y (by simp [hy])⟩
theorem res_zero : ∀ (S : List Sal) (i k : Nat), (∀ x ∈ S, 0 ≤ x.c) → ∀ a ∈ resArcs i S (List.replicate k 0), 0 ≤ a.w
  | [], _, _, _, a, h => by simp [resArcs] at h
  | _ :: _, _, 0, _, a, h => by simp [resArcs] at h
  | x :: S, i, k + 1, hc, a, h => by
    rw [List.replicate_succ] at h
    unfold resArcs at h
    rw [List.mem_append, List.mem_append] at h
    rcases h with h | h | h
    · split at h
      · simp only [List.mem_singleton] at h; subst h; exact hc x (by simp)
      · cases h
    · rw [if_neg (by omega)] at h; cases h
    · exact res_zero S (i + 1) k (fun y hy => hc y (by simp [hy])) a h
theorem costed_c (f : Nat → Int) (hf : ∀ i, 0 ≤ f i) (S : List Sal) (i : Nat) : ∀ x ∈ costed f i S, 0 ≤ x.c := by
  intro x hx
  obtain ⟨k, hk⟩ := List.getElem?_of_mem hx
  rw [costed_get] at hk
  obtain ⟨y, _, rfl⟩ := Option.map_eq_some_iff.1 hk
  exact hf _
theorem inv_start {c : Chn} (hR : Right c) {f : Nat → Int} (hf : ∀ i, 0 ≤ f i) : Inv0 c f (List.replicate c.sales.length 0) ((List.range c.houses.length).map fun v => net (salsOf c) (balesOf c) v) := by
  refine ⟨by have := feas_zero (salsAt c f) fun x hx => (at_cap hR f x hx).1; rwa [at_len] at this, ⟨fun _ => 0, fun a ha => ?_⟩, ?_⟩
  · have := res_zero (salsAt c f) 0 c.sales.length (costed_c f hf _ _) a ha
    show (0 : Int) ≤ 0 + a.w
    omega
  · unfold leftL leftI
    congr 1
    funext v
    rw [net_zero, net_at]
    omega
def absS (l : List Int) : Nat := (l.map Int.natAbs).sum
theorem absS_set : ∀ (l : List Int) (i : Nat) (x y : Int), l[i]? = some y → absS (l.set i x) + y.natAbs = absS l + x.natAbs
  | z :: l, 0, x, y, h => by
    simp at h; subst h
    simp only [absS, List.set_cons_zero, List.map_cons, List.sum_cons]; omega
  | z :: l, i + 1, x, y, h => by
    have ih := absS_set l i x y (by simpa using h)
    simp only [absS, List.set_cons_succ, List.map_cons, List.sum_cons] at ih ⊢
    omega
  | [], _, _, _, h => by simp at h
/-- What the passes know is known of the houses. -/
theorem inv_corr {c : Chn} (hR : Right c) {f : Nat → Int} {C : List (List Int)} (hC : Costs f C) (hCl : C.length = c.sales.length) (hs : c.sales.length ≤ 11) {M left : List Int} (h : Inv0 c f M left) :
    Corr f c.houses.length (passesR C (stepsL c M) c.houses.length (initR left)) (bfOf (salsAt c f) c.houses.length (balesOf c) M) := by
  have h0 := initR_corr f left (oweS (salsAt c f) (balesOf c) M) fun v y hy => by
    have hv : v < c.houses.length := by have := (List.getElem?_eq_some_iff.1 hy).1; rw [h.l, leftL_len] at this; exact this
    rw [h.l, leftL_get hv] at hy
    injection hy with hy
    unfold oweS
    rw [hy]
  have hll : left.length = c.houses.length := by rw [h.l, leftL_len]
  rw [hll] at h0
  have hsc := steps_count c c.sales M 0
  have h6 := hR.h6
  have hb : c.houses.length * (stepsL c M).length ≤ 400 := by
    have h1 : c.houses.length * (stepsL c M).length ≤ 6 * 22 := Nat.mul_le_mul h6 (by unfold stepsL; omega)
    omega
  have h1 := passesR_corr hC rfl hCl (L := stepsL c M) (fun s hs => stepsL_ok hR hs) (initR_small left) h0 c.houses.length hb
  rw [stepsL_arcs] at h1
  exact h1
/-- **One bale more.** -/
theorem inv_step {c : Chn} (hR : Right c) {f : Nat → Int} {M left : List Int} (h : Inv0 c f M left) {t : Nat} {y : Int} (hy : left[t]? = some y) (hy0 : 0 < y) {d : Int} (hd : (bfOf (salsAt c f) c.houses.length (balesOf c) M).d t = some d) :
    ∃ k r z, k < c.houses.length ∧ r < c.houses.length ∧ backK (bfOf (salsAt c f) c.houses.length (balesOf c) M).p k t = some r ∧ (bfOf (salsAt c f) c.houses.length (balesOf c) M).p r = none ∧ t ≠ r ∧ left[r]? = some z ∧ z < 0 ∧
      Inv0 c f (walked M (chainArcs (bfOf (salsAt c f) c.houses.length (balesOf c) M).p k t)) ((left.set t (y - 1)).set r (z + 1)) ∧ absS ((left.set t (y - 1)).set r (z + 1)) < absS left := by
  have htl : t < c.houses.length := by have := (List.getElem?_eq_some_iff.1 hy).1; rw [h.l, leftL_len] at this; exact this
  obtain ⟨π, hπ⟩ := h.p
  obtain ⟨k, r, hk, hb, hr, -, hF, hnet, ho, hπ'⟩ := path_step (at_mem hR f) (full := balesOf c) h.F hπ htl
  have hro := ho ⟨d, hd⟩
  have hrl : r < c.houses.length := by
    refine back_lt (A := resArcs 0 (salsAt c f) M) (S := oweS (salsAt c f) (balesOf c) M) (fun a ha => (res_lt (at_mem hR f) M a ha).1) (Inv.passes _ _ _) k t r htl hb
  have hyl : y = leftI (salsAt c f) (balesOf c) M t := by
    rw [h.l, leftL_get htl] at hy
    injection hy with hy
    exact hy.symm
  have hz : left[r]? = some (leftI (salsAt c f) (balesOf c) M r) := by rw [h.l, leftL_get hrl]
  unfold oweS at hro
  simp only [decide_eq_true_eq] at hro
  have hne : t ≠ r := by rintro rfl; omega
  refine ⟨k, r, _, hk, hrl, hb, hr, hne, hz, hro, ⟨hF, hπ', ?_⟩, ?_⟩
  · apply List.ext_getElem?
    intro v
    by_cases hv : v < c.houses.length
    · have hvl : left[v]? = some (leftI (salsAt c f) (balesOf c) M v) := by rw [h.l, leftL_get hv]
      have hll : left.length = c.houses.length := by rw [h.l, leftL_len]
      have hnv := hnet v
      rw [leftL_get hv, List.getElem?_set, List.getElem?_set]
      have e : leftI (salsAt c f) (balesOf c) (walked M (chainArcs (bfOf (salsAt c f) c.houses.length (balesOf c) M).p k t)) v = leftI (salsAt c f) (balesOf c) M v - (one (t = v) - one (r = v)) := by
        unfold leftI; omega
      rw [e]
      by_cases e1 : r = v
      · subst e1
        rw [if_pos rfl, if_pos (by simp; omega)]
        unfold one
        rw [if_neg hne, if_pos rfl]
        exact congrArg some (by omega)
      · rw [if_neg e1]
        by_cases e2 : t = v
        · subst e2
          rw [if_pos rfl, if_pos (by omega)]
          unfold one
          rw [if_pos rfl, if_neg e1, hyl]
          exact congrArg some (by omega)
        · rw [if_neg e2, hvl]
          unfold one
          rw [if_neg e2, if_neg e1]
          exact congrArg some (by omega)
    · have hll : left.length = c.houses.length := by rw [h.l, leftL_len]
      rw [List.getElem?_eq_none (by simp; omega), List.getElem?_eq_none (by rw [leftL_len]; omega)]
  · have a1 := absS_set left t (y - 1) y hy
    have a2 := absS_set (left.set t (y - 1)) r (leftI (salsAt c f) (balesOf c) M r + 1) (leftI (salsAt c f) (balesOf c) M r) (by rw [List.getElem?_set, if_neg hne]; exact hz)
    omega
/-- **No bale more.** -/
theorem inv_end {c : Chn} (hR : Right c) {f : Nat → Int} {M left : List Int} (h : Inv0 c f M left) (hno : ∀ (t : Nat) (y : Int), left[t]? = some y → 0 < y → (bfOf (salsAt c f) c.houses.length (balesOf c) M).d t = none) : Opt (salsAt c f) (balesOf c) M := by
  obtain ⟨π, hπ⟩ := h.p
  have h1 := path_end (at_mem hR f) h.F hπ (by
    rw [at_caps]
    intro t ht h0
    exact hno t _ (by rw [h.l, leftL_get ht]) h0)
  rwa [at_caps] at h1
end Go.Proofs.YtafdbgielmlihaaDoor
/- The reference's rings, in plain words: the last pass says whether one is left. -/
namespace Go.Proofs.YtafdbgielmlihaaDoor
open Go.RowKit Go.Shelf

/-- Whether a step betters what is known. -/
def betters (σ : BF) (a : Arc) : Bool := match σ.d a.src with
  | some x => lessO (x + a.w) (σ.d a.dst)
  | none => false
theorem relax_no {σ : BF} {a : Arc} (h : betters σ a = false) : relax σ a = σ := by
  unfold betters at h
  unfold Go.Proofs.YtafdbgielmlihaaDoor.relax
  split at h
  · rename_i x hx
    rw [hx]
    simp only
    rw [h]
    simp
  · rename_i hx
    rw [hx]
theorem relax_yes {σ : BF} {a : Arc} {x : Int} (hx : σ.d a.src = some x) (h : betters σ a = true) : relax σ a = ⟨upd σ.d a.dst (some (x + a.w)), upd σ.p a.dst (some a)⟩ := by
  unfold betters at h
  rw [hx] at h
  simp only at h
  unfold Go.Proofs.YtafdbgielmlihaaDoor.relax
  rw [hx]
  simp only
  rw [h]
  simp
/-- The arc that a number names: 1 and the sale's place; below 0, if it goes back. -/
def arcT (S : List Sal) (b : Int) : Option Arc := if 0 < b then (S[(b - 1).toNat]?).map fun x => fwd x (b - 1).toNat else if b < 0 then (S[(-1 - b).toNat]?).map fun x => bwd x (-1 - b).toNat else none
/-- The two lists of the reference are what the passes know. -/
structure CorrI (S : List Sal) (n : Nat) (cost by' : List Int) (σ : BF) : Prop where
  lc : cost.length = n
  lb : by'.length = n
  d : ∀ (v : Nat) (y : Int), cost[v]? = some y → σ.d v = some y
  p : ∀ (v : Nat) (b : Int), by'[v]? = some b → σ.p v = arcT S b
  ok : ∀ b ∈ by', b ≠ 0 → (arcT S b).isSome = true
theorem CorrI.init (S : List Sal) (n : Nat) : CorrI S n (List.replicate n 0) (List.replicate n 0) (init0 fun _ => true) := by
  refine ⟨by simp, by simp, fun v y h => ?_, fun v b h => ?_, fun b hb h => ?_⟩
  · have := List.eq_of_mem_replicate (List.mem_of_getElem? h)
    subst this; rfl
  · have := List.eq_of_mem_replicate (List.mem_of_getElem? h)
    subst this; rfl
  · exact absurd (List.eq_of_mem_replicate hb) h
/-- A step that betters. -/
theorem CorrI.better {S : List Sal} {n : Nat} {cost by' : List Int} {σ : BF} (h : CorrI S n cost by' σ) {a : Arc} {b x y : Int} (ha : arcT S b = some a) (hs : cost[a.src]? = some x) (hd : cost[a.dst]? = some y) (hlt : x + a.w < y) :
    CorrI S n (cost.set a.dst (x + a.w)) (by'.set a.dst b) (relax σ a) ∧ betters σ a = true := by
  have hb : betters σ a = true := by
    unfold betters
    rw [h.d _ _ hs, h.d _ _ hd]
    simp [lessO, hlt]
  refine ⟨?_, hb⟩
  rw [relax_yes (h.d _ _ hs) hb]
  have hdl : a.dst < cost.length := (List.getElem?_eq_some_iff.1 hd).1
  refine ⟨by simp [h.lc], by simp [h.lb], fun v z hz => ?_, fun v z hz => ?_, fun z hz h0 => ?_⟩
  · rw [List.getElem?_set] at hz
    by_cases e : a.dst = v
    · subst e
      rw [if_pos rfl, if_pos hdl] at hz
      injection hz with hz
      subst hz
      exact upd_self _ _ _
    · rw [if_neg e] at hz
      show upd _ _ _ v = _
      rw [upd_ne _ _ (fun e' => e e'.symm)]
      exact h.d v z hz
  · rw [List.getElem?_set] at hz
    by_cases e : a.dst = v
    · subst e
      rw [if_pos rfl, if_pos (by rw [h.lb, ← h.lc]; exact hdl)] at hz
      injection hz with hz
      subst hz
      rw [ha]
      exact upd_self _ _ _
    · rw [if_neg e] at hz
      show upd _ _ _ v = _
      rw [upd_ne _ _ (fun e' => e e'.symm)]
      exact h.p v z hz
  · rcases List.mem_or_eq_of_mem_set hz with hz | rfl
    · exact h.ok z hz h0
    · rw [ha]; rfl
theorem CorrI.stays {S : List Sal} {n : Nat} {cost by' : List Int} {σ : BF} (h : CorrI S n cost by' σ) {a : Arc} {x y : Int} (hs : cost[a.src]? = some x) (hd : cost[a.dst]? = some y) (hlt : ¬ x + a.w < y) : relax σ a = σ ∧ betters σ a = false := by
  have hb : betters σ a = false := by
    unfold betters
    rw [h.d _ _ hs, h.d _ _ hd]
    simp [lessO]; omega
  exact ⟨relax_no hb, hb⟩
/-! Sale by sale. -/
def lastI : Option Nat → Int
  | none => -1
  | some v => v
def Wide (K : Int) (l : List Int) : Prop := ∀ y ∈ l, -(K * 20000000000000) ≤ y ∧ y ≤ K * 20000000000000
theorem Wide.mono {K K' : Int} {l : List Int} (h : Wide K l) (hk : K ≤ K') : Wide K' l := fun y hy => by have := h y hy; omega
theorem Wide.set {K : Int} {l : List Int} {i : Nat} {x : Int} (h : Wide K l) (hx : -((K + 1) * 20000000000000) ≤ x ∧ x ≤ (K + 1) * 20000000000000) : Wide (K + 1) (l.set i x) := by
  intro y hy
  rcases List.mem_or_eq_of_mem_set hy with hy | rfl
  · exact h.mono (by omega) y hy
  · exact hx
/-- The state of a pass of the reference. -/
structure RdS (S : List Sal) (n : Nat) (K : Int) (cost by' : List Int) (la : Int) (s : BF × Option Nat) : Prop where
  c : CorrI S n cost by' s.1
  l : la = lastI s.2
  w : Wide K cost
theorem RdS.mono {S : List Sal} {n : Nat} {K K' : Int} {cost by' : List Int} {la : Int} {s : BF × Option Nat} (h : RdS S n K cost by' la s) (hk : K ≤ K') : RdS S n K' cost by' la s := ⟨h.c, h.l, h.w.mono hk⟩
end Go.Proofs.YtafdbgielmlihaaDoor
/- A region that draws its order and whose last two operations stand behind all others: they are walked by themselves, when the others are done. -/
namespace Go.Proofs.YtafdbgielmlihaaDoor
open Go.RowKit Go.Shelf

theorem wp_lastQ' {P : Program} {oL : Oper} {Q : Exit → Act → World → Prop} {o : Oper} {a : Act} {w : World} {K : Act → World → Prop} (hh : o.wp P a w K Q) : o.wp P a w K (lastQ P oL Q) := by
  unfold Oper.wp at *
  generalize (execOp a.eval o).run P w = r at *
  cases r with
  | ok n w' =>
    cases n <;> simp only [Oper.upon] at hh ⊢ <;>
      first
        | exact hh
        | exact Calls.mono hh (fun e w'' he => by cases e <;> exact he)
  | halt x w' => cases x <;> simp only [Oper.upon] at hh ⊢ <;> exact hh

theorem tame_back {l : List Oper} {n : Nat} (hB : tameB l n = true) : ∀ (i : Nat) (o : Oper), l[i]? = some o → (∀ e ∈ o.after, Region.binds .any e = true → e.on < i) ∧ ∀ (j : Nat) (b : Bool), o.guard = some (j, b) → j < i := by
  intro i o hi
  unfold tameB at hB
  rw [Bool.and_eq_true, List.all_eq_true] at hB
  have h := hB.1 (o, i) (by rw [List.mem_zipIdx_iff_getElem?]; simpa using hi)
  simp only [Bool.and_eq_true] at h
  obtain ⟨⟨h1, h2⟩, h3⟩ := h
  refine ⟨fun e he hbd => ?_, fun j b hg => ?_⟩
  · rw [List.all_eq_true] at h1
    have := h1 e (Array.mem_toList_iff.2 he)
    simpa [hbd] using this
  · rw [hg] at h3
    simp only [Bool.and_eq_true, decide_eq_true_eq] at h3
    exact h3.1

end Go.Proofs.YtafdbgielmlihaaDoor
/- A region that draws its order and ends in operations that each stand behind all before them: these are walked by themselves, in the order of the text. -/
namespace Go.Proofs.YtafdbgielmlihaaDoor
open Go.RowKit Go.Shelf

def nestQ (P : Program) : List Oper → (Exit → Act → World → Prop) → (Exit → Act → World → Prop)
  | [], Q => Q
  | o :: r, Q => lastQ P o (nestQ P r Q)
theorem wp_nest {P : Program} {o : Oper} {a : Act} {w : World} {K : Act → World → Prop} : ∀ (r : List Oper) {Q : Exit → Act → World → Prop}, o.wp P a w K Q → o.wp P a w K (nestQ P r Q)
  | [], _, h => h
  | _ :: r, _, h => wp_lastQ' (wp_nest r h)
theorem lets_nest {P : Program} : ∀ (r : List Oper) {Q : Exit → Act → World → Prop}, LetsOut Q → LetsOut (nestQ P r Q)
  | [], _, h => h
  | _ :: r, _, h => lets_nest r h
theorem nest_of {P : Program} {ops : Array Oper} : ∀ (r : List Oper) {Q : Exit → Act → World → Prop} {A : Act} {W : World}, (∀ o ∈ r, o.guard = none) → wpList P ops Q r A W → nestQ P r Q .normal A W
  | [], _, _, _, _, h => h
  | o :: r, Q, A, W, hg, h => by
    have hw : Region.wanted o (yielded ops A.tmps) = true := by simp [Region.wanted, hg o (List.mem_cons_self ..)]
    simp only [wpList, hw, if_true] at h
    show lastQ P o (nestQ P r Q) .normal A W
    rcases h with h | ⟨h1, h2⟩
    · exact .inl (wp_nest r (Oper.wp_mono (fun A' W' h'' => nest_of r (fun o' ho' => hg o' (List.mem_cons_of_mem _ ho')) h'') h))
    · exact .inr ⟨h1, lets_nest r h2⟩
def cutkB (n : Nat) : List Oper → List Oper → Bool
  | _, [] => true
  | l, o :: r => (tameB (l ++ [o]) n && lastB (l ++ [o])) && (o.guard.isNone && cutkB n (l ++ [o]) r)
theorem any_nest {P : Program} {n : Nat} : ∀ (r l : List Oper) {Q : Exit → Act → World → Prop} {fuel : Nat} {A : Act} {W : World}, cutkB n l r = true → wpAny P .any l.toArray (nestQ P r Q) fuel (Array.replicate l.length false) A W →
    wpAny P .any (l ++ r).toArray Q (fuel + r.length) (Array.replicate (l.length + r.length) false) A W
  | [], l, Q, fuel, A, W, _, h => by simpa [nestQ] using h
  | o :: r, l, Q, fuel, A, W, hc, h => by
    unfold cutkB at hc
    simp only [Bool.and_eq_true, Option.isNone_iff_eq_none] at hc
    obtain ⟨⟨h1, h2⟩, h3, h4⟩ := hc
    have h5 := tame_lastL (P := P) (Q := nestQ P r Q) (tame_back h1) h2 h3 _ _ _ _ (by simp) (by
      intro j o' ho hj
      have : (Array.replicate l.length false).getD j false = false := by
        rw [Array.getD_eq_getD_getElem?, Array.getElem?_replicate]; split <;> rfl
      rw [this] at hj
      cases hj) h
    rw [← Array.replicate_succ] at h5
    have h6 := any_nest r (l ++ [o]) h4 (by simpa using h5)
    simpa [Nat.add_assoc, Nat.add_comm, Nat.add_left_comm] using h6

theorem wp_region_tame_cutk {P : Program} {id : Nat} {Q : Exit → Act → World → Prop} {w : World} {a0 : Act} {l : List Oper} (C : World → Prop) (R : World → World → Prop) (hm : P.follows .mixedOrders = true) (n : Nat) (hn : a0.tmps.size = n) (k : Nat)
    (hB' : tameB (l.take k) n = true) (hcut : cutkB n (l.take k) (l.drop k) = true) (hg : (l.drop k).all (fun o => o.guard.isNone) = true) (hC : C w.drew)
    (h : wpTame P C R ((l.take k).map (·.dst)) a0 (fun A W => wpList P l.toArray Q (l.drop k) A W) (l.take k).length (l.take k) []) : (Code.region id l.toArray true).wp P Q a0 w := by
  subst hn
  obtain ⟨G, hlen, _, hfin, hops⟩ := wpTame_facts (l.take k) [] h
  have hg' : ∀ o ∈ l.drop k, o.guard = none := fun o ho => by
    have := List.all_eq_true.1 hg o ho
    simpa using this
  have hfin' : ∀ A W, C W → Same0 ((l.take k).map (·.dst)) a0 A → (∀ j, j < (l.take k).length → Fact G A.eval W j) → nestQ P (l.drop k) Q .normal A W := by
    intro A W c s f
    exact nest_of _ hg' (hfin A W c s (by simpa using f))
  have h1 := tame_any (Q := nestQ P (l.drop k) Q) (Qn := fun A W => nestQ P (l.drop k) Q .normal A W) (fun _ _ h => h) hB' G (by simpa using hlen) hfin' (by simpa using hops) (l.take k).length (Array.replicate (l.take k).length false) a0 w.drew (by simp)
    (Nat.le_trans (List.length_filter_le _ _) (by simp)) hC ⟨rfl, rfl, fun _ _ => rfl⟩ (by
      intro j hj
      have : (Array.replicate (l.take k).length false).getD j false = false := by
        rw [Array.getD_eq_getD_getElem?, Array.getElem?_replicate]; split <;> rfl
      rw [this] at hj
      cases hj)
  refine wp_region_any hm ?_
  have h2 := any_nest (P := P) (n := a0.tmps.size) (l.drop k) (l.take k) (Q := Q) hcut h1
  rw [List.take_append_drop] at h2
  have e1 : (l.take k).length + (l.drop k).length = l.toArray.size := by rw [← List.length_append, List.take_append_drop]; simp
  rw [e1] at h2
  exact h2
end Go.Proofs.YtafdbgielmlihaaDoor
/- A region that draws its order, with a word on the frame and the world together that each operation keeps: two rows made in it are not the same. -/
namespace Go.Proofs.YtafdbgielmlihaaDoor
open Go.RowKit Go.Shelf

section
variable {P : Program} {C : World → Prop} {R : World → World → Prop} {a0 : Act} {l : List Oper}

variable {ds : List (Option Tmp)} {Q : Act → World → Prop} {I : Act → World → Prop} {n : Nat} {o : Oper} {rest : List Oper} {F : Facts}
end
/-- Temporaries of two kinds that do not hold the same row. -/
structure Sep (L1 L2 : List Tmp) (A : Act) (W : World) : Prop where
  lt : ∀ d, d ∈ L1 ∨ d ∈ L2 → ∀ g n c, A.eval (.tmp d) = .slice (some ⟨g, 0, none⟩) n c → g < W.heap.size
  ne : ∀ d d', d ∈ L1 → d' ∈ L2 → ∀ g n c g' n' c', A.eval (.tmp d) = .slice (some ⟨g, 0, none⟩) n c → A.eval (.tmp d') = .slice (some ⟨g', 0, none⟩) n' c' → g ≠ g'
theorem Sep.put {L1 L2 : List Tmp} {d : Tmp} {A : Act} {W W' : World} (h : Sep L1 L2 A W) (k : Ext W W') (h1 : d ∉ L1) (h2 : d ∉ L2) (v : Value) : Sep L1 L2 (A.put (some d) v) W' := by
  have e0 : ∀ x, x ∈ L1 ∨ x ∈ L2 → (A.put (some d) v).eval (.tmp x) = A.eval (.tmp x) := fun x hx => eval_put_ne (fun e => by subst e; exact hx.elim h1 h2)
  refine ⟨fun x hx g n c e => ?_, fun x y hx hy g n c g' n' c' e e' => ?_⟩
  · rw [e0 x hx] at e; exact Nat.lt_of_lt_of_le (h.lt x hx g n c e) k.size
  · rw [e0 x (.inl hx)] at e; rw [e0 y (.inr hy)] at e'; exact h.ne x y hx hy g n c g' n' c' e e'
/-- A new row. -/
theorem Sep.fresh {L1 L2 : List Tmp} {d : Tmp} {A : Act} {W : World} {o : Obj} {n c : Nat} (h : Sep L1 L2 A W) (hd : d < A.tmps.size) (h12 : ∀ x, x ∈ L1 → x ∉ L2) : Sep L1 L2 (A.put (some d) (.slice (some ⟨W.heap.size, 0, none⟩) n c)) (W.alloc o) := by
  have ev : ∀ x g n' c', (x ∈ L1 ∨ x ∈ L2) → (A.put (some d) (.slice (some ⟨W.heap.size, 0, none⟩) n c)).eval (.tmp x) = .slice (some ⟨g, 0, none⟩) n' c' → (x = d ∧ g = W.heap.size) ∨ (x ≠ d ∧ g < W.heap.size) := fun x g n' c' hx e => by
    by_cases hxd : x = d
    · subst hxd
      rw [eval_put_self hd] at e
      injection e with e; injection e with e; injection e with e
      exact .inl ⟨rfl, e.symm⟩
    · rw [eval_put_ne (fun e => hxd e.symm)] at e
      exact .inr ⟨hxd, h.lt x hx g n' c' e⟩
  refine ⟨fun x hx g n' c' e => ?_, fun x y hx hy g n1 c1 g' n2 c2 e e' => ?_⟩
  · rw [World.size_alloc]
    rcases ev x g n' c' hx e with ⟨-, h⟩ | ⟨-, h⟩ <;> omega
  · rcases ev x g n1 c1 (.inl hx) e with ⟨h1, h2⟩ | ⟨h1, h2⟩ <;> rcases ev y g' n2 c2 (.inr hy) e' with ⟨h3, h4⟩ | ⟨h3, h4⟩
    · subst h1; subst h3; exact absurd hy (h12 _ hx)
    · omega
    · omega
    · rw [eval_put_ne (fun e => h1 e.symm)] at e
      rw [eval_put_ne (fun e => h3 e.symm)] at e'
      exact h.ne x y hx hy g n1 c1 g' n2 c2 e e'
end Go.Proofs.YtafdbgielmlihaaDoor
/- Remainders of numbers that are not negative. -/
namespace Go.Proofs.YtafdbgielmlihaaDoor
open Go.RowKit Go.Shelf

theorem remz_nat {a : Int} {n : Nat} (ha : 0 ≤ a) (hn : 0 < n) : ∃ j : Nat, a.tmod (n : Int) = (j : Int) ∧ j < n := by
  refine ⟨(a.tmod (n : Int)).toNat, ?_, ?_⟩
  · have := Int.emod_nonneg a (show (n : Int) ≠ 0 by omega)
    rw [Int.tmod_eq_emod_of_nonneg ha]
    omega
  · have := Int.emod_lt_of_pos a (show (0 : Int) < n by omega)
    have := Int.emod_nonneg a (show (n : Int) ≠ 0 by omega)
    rw [Int.tmod_eq_emod_of_nonneg ha]
    omega
theorem remz_int {a b : Int} (ha : 0 ≤ a) (hb : 0 < b) : 0 ≤ a.tmod b ∧ a.tmod b < b := by
  have := Int.emod_nonneg a (show b ≠ 0 by omega)
  have := Int.emod_lt_of_pos a hb
  rw [Int.tmod_eq_emod_of_nonneg ha]
  omega
end Go.Proofs.YtafdbgielmlihaaDoor
/- A slice in memory that is newer than a given place. -/
namespace Go.Proofs.YtafdbgielmlihaaDoor
open Go.RowKit Go.Shelf

def NewAt (B : Nat) (v : Value) : Prop := ∀ b o n c, v = .slice (some ⟨b, o, none⟩) n c → 0 < n → B ≤ b
theorem NewAt.nil (B c : Nat) : NewAt B (.slice none 0 c) := fun b o n c e _ => by cases e
theorem NewAt.mono {A B : Nat} {v : Value} (h : NewAt B v) (hA : A ≤ B) : NewAt A v := fun b o n c e h0 => Nat.le_trans hA (h b o n c e h0)
theorem NewAt.at_ {B g o n c : Nat} (h : B ≤ g) : NewAt B (.slice (some ⟨g, o, none⟩) n c) := fun b o' n' c' e _ => by
  injection e with e _ _
  injection e with e
  injection e with e _ _
  omega
theorem Own.newAt {α : Type} {enc : α → List Value} {e : TypeId} {sz : Nat} {w : World} {base : Nat} {v : Value} {l : List α} (h : Own enc e sz w base v l) : NewAt base v := by
  rcases h.2 with ⟨rfl, _⟩ | ⟨g, cap, cur, rfl, hg, _⟩
  · exact NewAt.nil _ _
  · exact NewAt.at_ hg
/-- A new slice keeps what it holds while an older block turns. -/
theorem Sl.older {α : Type} {enc : α → List Value} {sz g B : Nat} {A A' : World} {a : Option Addr} {n c : Nat} {l : List α} (h : Sl enc sz A (.slice a n c) l) (hn : NewAt B (.slice a n c)) (hg : g < B) (k : A.grownBy A' (some g)) : Sl enc sz A' (.slice a n c) l := by
  obtain ⟨a', c', hv, hl, hc, hcell⟩ := h
  injection hv with e1 e2 e3
  subst e1 e2 e3
  refine ⟨_, _, rfl, hl, hc, fun h0 => ?_⟩
  obtain ⟨b, off, hA, hb, hk⟩ := hcell h0
  subst hA
  have := hn b off _ _ rfl h0
  refine ⟨b, off, rfl, Nat.lt_of_lt_of_le hb k.size, fun i x hi j u hu => ?_⟩
  exact (World.cell?_of_block (a := ⟨b, _, none⟩) (k.block b hb (by intro e; injection e with e; omega))).trans (hk i x hi j u hu)
end Go.Proofs.YtafdbgielmlihaaDoor
/- A region that draws its order, with a word on what is done, on the temporaries and on the world together. -/
namespace Go.Proofs.YtafdbgielmlihaaDoor
open Go.RowKit Go.Shelf

def updD {α : Type} (f : Nat → α) (i : Nat) (v : α) : Nat → α := fun j => if j = i then v else f j
theorem updD_self {α : Type} (f : Nat → α) (i : Nat) (v : α) : updD f i v i = v := if_pos rfl
theorem updD_ne {α : Type} {f : Nat → α} {i j : Nat} {v : α} (h : j ≠ i) : updD f i v j = f j := if_neg h
def updDO (f : Nat → Value) (d : Option Tmp) (v : Value) : Nat → Value := match d with | some d => updD f d v | none => f
def evT (A : Act) : Nat → Value := fun t => A.eval (.tmp t)
theorem evT_put {A : Act} {d : Option Tmp} (h : ∀ t, d = some t → t < A.tmps.size) (v : Value) : evT (A.put d v) = updDO (evT A) d v := by
  funext t
  cases d with
  | none => rfl
  | some d =>
    show (A.put (some d) v).eval (.tmp t) = if t = d then v else A.eval (.tmp t)
    by_cases e : t = d
    · subst e; rw [if_pos rfl]; exact eval_put_self (h t rfl)
    · rw [if_neg e]; exact eval_put_ne fun e' => e e'.symm
/-- The walk, in the order of the text. -/
def wpTameD (P : Program) (C : World → Prop) (R : World → World → Prop) (I : (Nat → Bool) → (Nat → Value) → World → Prop) (ds : List (Option Tmp)) (a0 : Act) (Q : Act → World → Prop) (n : Nat) : List Oper → Facts → Prop
  | [], F => ∀ A W, C W → Same0 ds a0 A → I (fun j => decide (j < n)) (evT A) W → (∀ j, j < n → Fact F A.eval W j) → Q A W
  | o :: rest, F => ∃ U : Value → World → Prop, (∀ v W W', C W' → R W W' → U v W → U v W') ∧
      (∀ L A W, C W → Same0 ds a0 A → I L (evT A) W → L F.length = false → (∀ e ∈ o.after, Region.binds .any e = true → L e.on = true) → (∀ e ∈ o.after, Region.binds .any e = true → Fact F A.eval W e.on) →
        o.guard = none ∧ opGives P C R o A.eval W (fun v W' => U (if o.dst.isSome then v else undef) W' ∧ I (updD L F.length true) (updDO (evT A) o.dst v) W')) ∧
      wpTameD P C R I ds a0 Q n rest (F ++ [(o.dst, U)])
theorem wpTameD_facts {P : Program} {C : World → Prop} {R : World → World → Prop} {ds : List (Option Tmp)} {a0 : Act} {Q : Act → World → Prop} {n : Nat} {I : (Nat → Bool) → (Nat → Value) → World → Prop} : ∀ (l : List Oper) (F : Facts), wpTameD P C R I ds a0 Q n l F →
    ∃ G : Facts, G.length = F.length + l.length ∧ (∀ j, j < F.length → G[j]? = F[j]?) ∧ (∀ A W, C W → Same0 ds a0 A → I (fun j => decide (j < n)) (evT A) W → (∀ j, j < n → Fact G A.eval W j) → Q A W) ∧
      ∀ i o, l[i]? = some o → ∃ U, G[F.length + i]? = some (o.dst, U) ∧ (∀ v W W', C W' → R W W' → U v W → U v W') ∧
        (∀ L A W, C W → Same0 ds a0 A → I L (evT A) W → L (F.length + i) = false → (∀ e ∈ o.after, Region.binds .any e = true → L e.on = true) → (∀ e ∈ o.after, Region.binds .any e = true → Fact (G.take (F.length + i)) A.eval W e.on) →
          o.guard = none ∧ opGives P C R o A.eval W (fun v W' => U (if o.dst.isSome then v else undef) W' ∧ I (updD L (F.length + i) true) (updDO (evT A) o.dst v) W'))
  | [], F, h => ⟨F, by simp, fun _ _ => rfl, h, fun i o hi => by simp at hi⟩
  | o :: rest, F, h => by
    obtain ⟨U, hst, hstep, hrest⟩ := h
    obtain ⟨G, hlen, hpre, hfin, hops⟩ := wpTameD_facts rest (F ++ [(o.dst, U)]) hrest
    have hF : G.take F.length = F := by
      apply List.ext_getElem?
      intro j
      rw [List.getElem?_take]
      by_cases hj : j < F.length
      · rw [if_pos hj, hpre j (by simp; omega), List.getElem?_append_left hj]
      · rw [if_neg hj, List.getElem?_eq_none (by omega)]
    refine ⟨G, by rw [hlen]; simp; omega, fun j hj => by rw [hpre j (by simp; omega), List.getElem?_append_left hj], hfin, fun i o' hi => ?_⟩
    cases i with
    | zero =>
      simp at hi; subst hi
      refine ⟨U, ?_, hst, ?_⟩
      · rw [Nat.add_zero, hpre F.length (by simp)]; simp
      · rw [Nat.add_zero, hF]; exact hstep
    | succ i =>
      obtain ⟨U', h1, h2, h3⟩ := hops i o' (by simpa using hi)
      have e : (F ++ [(o.dst, U)]).length + i = F.length + (i + 1) := by simp; omega
      rw [e] at h1 h3
      exact ⟨U', h1, h2, h3⟩


section
variable {P : Program} {C : World → Prop} {R : World → World → Prop} {a0 : Act} {l : List Oper}

theorem tame_anyD {I : (Nat → Bool) → (Nat → Value) → World → Prop} {Q : Exit → Act → World → Prop} {Qn : Act → World → Prop} (hQ : ∀ A W, Qn A W → Q .normal A W) (hB : tameB l a0.tmps.size = true) (G : Facts) (hlen : G.length = l.length)
    (hfin : ∀ A W, C W → Same0 (l.map (·.dst)) a0 A → I (fun j => decide (j < l.length)) (evT A) W → (∀ j, j < l.length → Fact G A.eval W j) → Qn A W)
    (hops : ∀ i o, l[i]? = some o → ∃ U, G[i]? = some (o.dst, U) ∧ (∀ v W W', C W' → R W W' → U v W → U v W') ∧
        (∀ L A W, C W → Same0 (l.map (·.dst)) a0 A → I L (evT A) W → L i = false → (∀ e ∈ o.after, Region.binds .any e = true → L e.on = true) → (∀ e ∈ o.after, Region.binds .any e = true → Fact (G.take i) A.eval W e.on) → o.guard = none ∧ opGives P C R o A.eval W (fun v W' => U (if o.dst.isSome then v else undef) W' ∧ I (updD L i true) (updDO (evT A) o.dst v) W'))) :
    ∀ (fuel : Nat) (listed : Array Bool) (A : Act) (W : World), listed.size = l.length → ((List.range l.length).filter fun j => !listed.getD j true).length ≤ fuel → C W → Same0 (l.map (·.dst)) a0 A → I (fun j => listed.getD j false) (evT A) W →
      (∀ j, listed.getD j false = true → Fact G A.eval W j) → wpAny P .any l.toArray Q fuel listed A W := by
  have hB' := hB
  unfold tameB at hB'
  rw [Bool.and_eq_true, List.all_eq_true, List.all_eq_true] at hB'
  obtain ⟨hb1, hb2⟩ := hB'
  have hback : ∀ (i : Nat) (o : Oper), l[i]? = some o → (∀ e ∈ o.after, Region.binds .any e = true → e.on < i) ∧ (∀ d, o.dst = some d → d < a0.tmps.size) ∧ (∀ (j : Nat) (b : Bool), o.guard = some (j, b) → j < i ∧ ∃ e ∈ o.after, e.on = j ∧ Region.binds .any e = true) := by
    intro i o hi
    have h := hb1 (o, i) (by rw [List.mem_zipIdx_iff_getElem?]; simpa using hi)
    simp only [Bool.and_eq_true] at h
    obtain ⟨⟨h1, h2⟩, h3⟩ := h
    refine ⟨fun e he hbd => ?_, fun d hd => ?_, fun j b hg => ?_⟩
    · rw [List.all_eq_true] at h1
      have := h1 e (Array.mem_toList_iff.2 he)
      simpa [hbd] using this
    · rw [hd] at h2; simpa using h2
    · rw [hg] at h3
      simp only [Bool.and_eq_true, decide_eq_true_eq] at h3
      refine ⟨h3.1, ?_⟩
      obtain ⟨_, h3⟩ := h3
      rw [List.any_eq_true] at h3
      obtain ⟨e, he, h4⟩ := h3
      exact ⟨e, Array.mem_toList_iff.1 he, by simpa using h4⟩
  have hdist : ∀ (i j : Nat) (o p : Oper) (d : Tmp), l[i]? = some o → l[j]? = some p → o.dst = some d → i ≠ j → p.dst ≠ some d := by
    intro i j o p d hi hj hd hne
    have h := hb2 (o, i) (by rw [List.mem_zipIdx_iff_getElem?]; simpa using hi)
    simp only [hd] at h
    rw [List.all_eq_true] at h
    have := h (p, j) (by rw [List.mem_zipIdx_iff_getElem?]; simpa using hj)
    simpa [hne] using this
  have hall : ∀ (listed : Array Bool) (A : Act) (W : World), listed.size = l.length → C W → Same0 (l.map (·.dst)) a0 A → I (fun j => listed.getD j false) (evT A) W → (∀ j, listed.getD j false = true → Fact G A.eval W j) → Region.ready .any l.toArray listed = [] → Q .normal A W := by
    intro listed A W hs hC hS hIA hF hr
    suffices key : ∀ k, k < l.length → listed.getD k false = true by
      refine hQ _ _ (hfin A W hC hS ?_ fun j hj => hF j (key j hj))
      have e : (fun j => listed.getD j false) = fun j => decide (j < l.length) := by
        funext j
        by_cases hj : j < l.length
        · rw [key j hj, decide_eq_true hj]
        · rw [decide_eq_false hj, Array.getD_eq_getD_getElem?, Array.getElem?_eq_none (by omega)]; rfl
      rw [e] at hIA
      exact hIA
    -- the least one that is not listed would be ready
    · intro k
      induction k using Nat.strongRecOn with
      | _ k ih =>
        intro hk
        cases hv : listed.getD k false with
        | true => rfl
        | false =>
          exfalso
          have hmem : k ∈ Region.ready .any l.toArray listed := by
            rw [mem_ready]
            have hkl : k < listed.size := by omega
            refine ⟨by simpa [Array.getD_eq_getD_getElem?, hkl] using hv, l[k], by simp, fun e he hb => ?_⟩
            have := (hback k _ (List.getElem?_eq_getElem hk)).1 e he hb
            exact ih e.on this (by omega)
          rw [hr] at hmem
          cases hmem
  intro fuel
  induction fuel with
  | zero =>
    intro listed A W hs hcount hC hS hIA hF
    have hr : Region.ready .any l.toArray listed = [] := by
      rw [List.eq_nil_iff_forall_not_mem]
      intro k hk
      rw [mem_ready] at hk
      obtain ⟨h0, o, ho, _⟩ := hk
      have hkl : k < l.length := by simpa using (Array.getElem?_eq_some_iff.1 ho).1
      have : k ∈ (List.range l.length).filter fun j => !listed.getD j true := by simp [hkl]; simpa using h0
      have := List.length_pos_of_mem this
      omega
    exact ⟨hr, hall listed A W hs hC hS hIA hF hr⟩
  | succ fuel ih =>
    intro listed A W hs hcount hC hS hIA hF
    refine ⟨hall listed A W hs hC hS hIA hF, fun i hi => ?_⟩
    rw [mem_ready] at hi
    obtain ⟨h0, o, ho, hdeps⟩ := hi
    have hil : i < l.length := by simpa using (Array.getElem?_eq_some_iff.1 ho).1
    have hlo : l[i]? = some o := by simpa using ho
    obtain ⟨U, hU, hst, hstep⟩ := hops i o hlo
    obtain ⟨hb, hdb, hgb⟩ := hback i o hlo
    have htake : ∀ j, j < i → Fact (G.take i) A.eval W j = Fact G A.eval W j := fun j hj => by
      unfold Fact; rw [List.getElem?_take, if_pos hj]
    have h0' : listed.getD i false = false := by
      have : i < listed.size := by omega
      simpa [Array.getD_eq_getD_getElem?, this] using h0
    obtain ⟨hgn, hstep'⟩ := hstep _ A W hC hS hIA h0' (fun e he hbd => hdeps e he hbd) (fun e he hbd => by rw [htake e.on (hb e he hbd)]; exact hF e.on (hdeps e he hbd))
    have hrun : Region.wanted o (yielded l.toArray A.tmps) = runs (G.take i) A.eval o.guard := by
      unfold Region.wanted runs
      cases hg : o.guard with
      | none => rfl
      | some jb =>
        obtain ⟨j, b⟩ := jb
        obtain ⟨hj, _⟩ := hgb j b hg
        have hjl : j < l.length := by omega
        obtain ⟨Uj, hUj, _⟩ := hops j l[j] (List.getElem?_eq_getElem hjl)
        simp only [List.getElem?_take, if_pos hj, hUj]
        cases hd : (l[j]).dst with
        | none =>
          simp only [yielded]
          simp [List.getElem?_eq_getElem hjl, hd]
        | some d => exact yielded_isB (by simp) hd b
    -- what stands behind the operation
    have hnext : ∀ (v : Value) (W' : World), C W' → I (updD (fun j => listed.getD j false) i true) (updDO (evT A) o.dst v) W' → (∀ j d V, G[j]? = some (d, V) → listed.getD j false = true → ∀ u, V u W → V u W') → U (if o.dst.isSome then v else undef) W' →
        wpAny P .any l.toArray Q fuel (listed.setIfInBounds i true) (A.put o.dst v) W' := by
      intro v W' hC' hI' hkeep hUv
      refine ih _ _ _ (by simpa using hs) ?_ hC' (same0_put hS (by rw [List.mem_map]; exact ⟨o, List.mem_of_getElem? hlo, rfl⟩) v) ?_ ?_
      · have hsub : ((List.range l.length).filter fun j => !(listed.setIfInBounds i true).getD j true).length < ((List.range l.length).filter fun j => !listed.getD j true).length := by
          have h1 : (List.range l.length).filter (fun j => !(listed.setIfInBounds i true).getD j true) = ((List.range l.length).filter fun j => !listed.getD j true).filter (fun j => j != i) := by
            rw [List.filter_filter]
            refine List.filter_congr fun j hj => ?_
            by_cases hji : j = i
            · subst hji
              simp [Array.getD_eq_getD_getElem?, show j < listed.size by omega]
            · rw [getD_set_ne true (Ne.symm hji)]; simp [hji]
          rw [h1]
          have hmem : i ∈ (List.range l.length).filter fun j => !listed.getD j true := by simp [hil]; simpa using h0
          refine Nat.lt_of_le_of_ne (List.length_filter_le _ _) fun he => ?_
          have := (List.length_filter_eq_length_iff.1 he) i hmem
          simp at this
        omega
      · have e1 : (fun j => (listed.setIfInBounds i true).getD j false) = updD (fun j => listed.getD j false) i true := by
          funext j
          unfold updD
          by_cases hji : j = i
          · subst hji; rw [if_pos rfl, Array.getD_eq_getD_getElem?, Array.getElem?_setIfInBounds_self_of_lt (by omega)]; rfl
          · rw [if_neg hji]; exact getD_set_ne false (Ne.symm hji)
        rw [e1, evT_put (fun t ht => by rw [hS.2.1]; exact hdb t ht)]
        exact hI'
      · intro j hj
        by_cases hji : j = i
        · subst hji
          unfold Fact
          rw [hU]
          cases hd : o.dst with
          | none => simpa [hd, atD] using hUv
          | some d =>
            have hsz : d < A.tmps.size := by rw [hS.2.1]; exact hdb d hd
            simp only [atD, eval_put_self hsz]
            simpa [hd] using hUv
        · rw [getD_set_ne false (Ne.symm hji)] at hj
          have hFj := hF j hj
          unfold Fact at hFj ⊢
          cases hGj : G[j]? with
          | none => trivial
          | some dV =>
            obtain ⟨d, V⟩ := dV
            rw [hGj] at hFj
            have hval : atD (A.put o.dst v).eval d = atD A.eval d := by
              cases d with
              | none => rfl
              | some d =>
                cases hdo : o.dst with
                | none => rfl
                | some d' =>
                  simp only [atD]
                  refine eval_put_ne fun he => ?_
                  have hjl : j < l.length := by rw [← hlen]; exact (List.getElem?_eq_some_iff.1 hGj).1
                  obtain ⟨Uj, hUj, _⟩ := hops j l[j] (List.getElem?_eq_getElem hjl)
                  rw [hGj] at hUj
                  injection hUj with hUj
                  have hdj : (l[j]).dst = some d := (Prod.mk.inj hUj).1.symm
                  exact hdist i j o _ d' hlo (List.getElem?_eq_getElem hjl) hdo (Ne.symm hji) (by rw [hdj, he])
            show V (atD (A.put o.dst v).eval d) W'
            rw [hval]
            exact hkeep j d V hGj hj _ hFj
    have hstab : ∀ W', C W' → R W W' → ∀ j d V, G[j]? = some (d, V) → listed.getD j false = true → ∀ u, V u W → V u W' := by
      intro W' hC' hR j d V hGj hj u hu
      have hjl : j < l.length := by rw [← hlen]; exact (List.getElem?_eq_some_iff.1 hGj).1
      obtain ⟨Uj, hUj, hstj, _⟩ := hops j l[j] (List.getElem?_eq_getElem hjl)
      rw [hGj] at hUj
      injection hUj with hUj
      have hV : V = Uj := (Prod.mk.inj hUj).2
      subst hV
      exact hstj u W W' hC' hR hu
    unfold wpOp
    simp only [ho]
    rw [hrun]
    have hw : runs (G.take i) A.eval o.guard = true := by unfold runs; rw [hgn]
    rw [hw]
    simp only [if_true]
    left
    unfold Oper.wp
    unfold opGives opPost at hstep'
    generalize (execOp A.eval o).run P W = r at hstep'
    cases r with
    | halt x w' => exact hstep'.elim
    | ok nx w' =>
      cases nx with
      | value v => obtain ⟨⟨h1, h2⟩, h3, h4⟩ := hstep'; exact hnext v w' h1 h4 (hstab w' h1 h2) h3
      | skip => obtain ⟨⟨h1, h2⟩, h3, h4⟩ := hstep'; exact hnext undef w' h1 h4 (hstab w' h1 h2) (by cases hds : o.dst.isSome <;> simpa [hds] using h3)
      | enter f args =>
        refine Calls.mono (R' := _) hstep' ?_
        rintro e w'' ⟨v, rfl, ⟨h1, h2⟩, h3, h4⟩
        exact hnext v w'' h1 h4 (hstab w'' h1 h2) h3
      | _ => exact hstep'.elim

theorem wp_region_tame_cutkD {id : Nat} {Q : Exit → Act → World → Prop} {w : World} (C : World → Prop) (R : World → World → Prop) (I : (Nat → Bool) → (Nat → Value) → World → Prop) (hm : P.follows .mixedOrders = true) (n : Nat) (hn : a0.tmps.size = n) (k : Nat)
    (hB' : tameB (l.take k) n = true) (hcut : cutkB n (l.take k) (l.drop k) = true) (hg : (l.drop k).all (fun o => o.guard.isNone) = true) (hC : C w.drew) (hI0 : I (fun _ => false) (evT a0) w.drew)
    (h : wpTameD P C R I ((l.take k).map (·.dst)) a0 (fun A W => wpList P l.toArray Q (l.drop k) A W) (l.take k).length (l.take k) []) : (Code.region id l.toArray true).wp P Q a0 w := by
  subst hn
  obtain ⟨G, hlen, _, hfin, hops⟩ := wpTameD_facts (l.take k) [] h
  have hg' : ∀ o ∈ l.drop k, o.guard = none := fun o ho => by
    have := List.all_eq_true.1 hg o ho
    simpa using this
  have hrep : ∀ (N j : Nat), (Array.replicate N false).getD j false = false := fun N j => by
    rw [Array.getD_eq_getD_getElem?, Array.getElem?_replicate]; split <;> rfl
  have hfin' : ∀ A W, C W → Same0 ((l.take k).map (·.dst)) a0 A → I (fun j => decide (j < (l.take k).length)) (evT A) W → (∀ j, j < (l.take k).length → Fact G A.eval W j) → nestQ P (l.drop k) Q .normal A W := by
    intro A W c s i f
    exact nest_of _ hg' (hfin A W c s i (by simpa using f))
  have h1 := tame_anyD (I := I) (Q := nestQ P (l.drop k) Q) (Qn := fun A W => nestQ P (l.drop k) Q .normal A W) (fun _ _ h => h) hB' G (by simpa using hlen) hfin' (by simpa using hops) (l.take k).length (Array.replicate (l.take k).length false) a0 w.drew (by simp)
    (Nat.le_trans (List.length_filter_le _ _) (by simp)) hC ⟨rfl, rfl, fun _ _ => rfl⟩ (by simpa only [hrep] using hI0) (by
      intro j hj
      rw [hrep] at hj
      cases hj)
  refine wp_region_any hm ?_
  have h2 := any_nest (P := P) (n := a0.tmps.size) (l.drop k) (l.take k) (Q := Q) hcut h1
  rw [List.take_append_drop] at h2
  have e1 : (l.take k).length + (l.drop k).length = l.toArray.size := by rw [← List.length_append, List.take_append_drop]; simp
  rw [e1] at h2
  exact h2
variable {ds : List (Option Tmp)} {Q : Act → World → Prop} {I : (Nat → Bool) → (Nat → Value) → World → Prop} {n : Nat} {o : Oper} {rest : List Oper} {F : Facts}
theorem opGives_monoD {ρ : Operand → Value} {W : World} {U U' : Value → World → Prop} (h : opGives P C R o ρ W U) (k : ∀ v W', CR C R W W' → U v W' → U' v W') : opGives P C R o ρ W U' := by
  unfold opGives opPost at h ⊢
  generalize (execOp ρ o).run P W = r at h ⊢
  cases r with
  | halt x w' => exact h
  | ok nx w' =>
    cases nx with
    | value v => exact ⟨h.1, k v w' h.1 h.2⟩
    | skip => exact ⟨h.1, k undef w' h.1 h.2⟩
    | enter f args =>
      refine Calls.mono (R' := _) h ?_
      rintro e w'' ⟨v, rfl, h1, h2⟩
      exact ⟨v, rfl, h1, k v w'' h1 h2⟩
    | _ => exact h
/-- An operation of which the word does not speak. -/
theorem tameD_q {d : Tmp} (hd : o.dst = some d) (hg : o.guard = none) (hI : ∀ L e W v, I L e W → I (updD L F.length true) (updD e d v) W) (v0 : Value)
    (hstep : ∀ ρ W, C W → Rd a0 ds ρ → (∀ e ∈ o.after, Region.binds .any e = true → Fact F ρ W e.on) → opGives P C R o ρ W (fun v W' => Is v0 v ∧ W' = W))
    (h : wpTameD P C R I ds a0 Q n rest (F ++ [(some d, fun v _ => v = v0)])) : wpTameD P C R I ds a0 Q n (o :: rest) F := by
  refine ⟨fun v _ => v = v0, fun _ _ _ _ _ h => h, fun L A W hC hS hIA _ _ hD => ⟨hg, ?_⟩, by rw [hd]; exact h⟩
  refine opGives_monoD (hstep A.eval W hC (Rd.of hS) hD) fun v W' _ hv => ?_
  rw [hd]
  obtain ⟨h1, rfl⟩ := hv
  exact ⟨h1, hI _ _ _ _ hIA⟩
/-- An operation of which the word speaks. -/
theorem tameD_m {d : Tmp} (hd : o.dst = some d) (hg : o.guard = none) (U : Value → World → Prop) (hst : ∀ v W W', C W' → R W W' → U v W → U v W')
    (hstep : ∀ ρ L W, C W → Rd a0 ds ρ → I L (fun t => ρ (.tmp t)) W → L F.length = false → (∀ e ∈ o.after, Region.binds .any e = true → L e.on = true) → (∀ e ∈ o.after, Region.binds .any e = true → Fact F ρ W e.on) → opGives P C R o ρ W (fun v W' => U v W' ∧ I (updD L F.length true) (updD (fun t => ρ (.tmp t)) d v) W'))
    (h : wpTameD P C R I ds a0 Q n rest (F ++ [(some d, U)])) : wpTameD P C R I ds a0 Q n (o :: rest) F := by
  refine ⟨U, hst, fun L A W hC hS hIA hL hLs hD => ⟨hg, ?_⟩, by rw [hd]; exact h⟩
  refine opGives_monoD (hstep A.eval L W hC (Rd.of hS) hIA hL hLs hD) fun v W' _ hv => ?_
  rw [hd]
  exact hv
theorem tameD_end (m : Nat) (hm : a0.tmps.size = m) (hn : n = F.length) (h : ∀ ρ W, C W → Rd a0 ds ρ → I (fun j => decide (j < n)) (fun t => ρ (.tmp t)) W → allF F ρ W → Q { tmps := (evs ρ 0 m).toArray, defers := a0.defers } W) : wpTameD P C R I ds a0 Q n [] F := by
  intro A W hC hS hI hF
  have e : A = { tmps := (evs A.eval 0 m).toArray, defers := a0.defers } := by
    rw [← hS.1]
    exact frame_lit (A := A) (m := m) (by rw [hS.2.1, hm])
  have h1 := h A.eval W hC (Rd.of hS) hI (allF_of _ _ _ (hn ▸ hF))
  rw [e]
  exact h1
end
end Go.Proofs.YtafdbgielmlihaaDoor
