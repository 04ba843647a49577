/- How the program of the layer chain looks for the cheapest way, in plain words: costs are lists of twelve numbers, read as one number to a large base. -/
import Derived.Test.YtafdbgielmlihaaDoorPkChTellsCardB
import Derived.Test.YtafdbgielmlihaaDoorPkChTellsCardA
namespace Go.Proofs.YtafdbgielmlihaaDoor
open Go.RowKit Go.Shelf

structure Stp where
  src : Int
  dst : Int
  sale : Int
  more : Int
structure Rch where
  is : Bool
  cost : List Int
  by' : Stp
def stepsGo (c : Chn) : Nat → List Sale → List Int → List Stp
  | i, x :: S, y :: m => (if y < x.bales then [⟨houseI c x.seller, houseI c x.buyer, i, 1⟩] else []) ++ ((if 0 < y then [⟨houseI c x.buyer, houseI c x.seller, i, -1⟩] else []) ++ stepsGo c (i + 1) S m)
  | _, _, _ => []
def stepsL (c : Chn) (m : List Int) : List Stp := stepsGo c 0 c.sales m
/-- The step as an arc, at the costs f. -/
def toArc (f : Nat → Int) (s : Stp) : Arc := ⟨s.src.toNat, s.dst.toNat, f s.sale.toNat * s.more, if 0 < s.more then 1 + s.sale else -1 - s.sale⟩
theorem steps_arcs (c : Chn) (f : Nat → Int) : ∀ (S : List Sale) (m : List Int) (i : Nat), (stepsGo c i S m).map (toArc f) = resArcs i (costed f i (S.map (salOf c))) m
  | [], m, i => by simp [stepsGo, costed, resArcs]
  | x :: S, [], i => by simp [stepsGo, costed, resArcs]
  | x :: S, y :: m, i => by
    simp only [stepsGo, List.map_cons, costed, resArcs, List.map_append, steps_arcs c f S m (i + 1), salOf]
    congr 1
    · split
      · simp [toArc]
      · rfl
    · congr 1
      split
      · simp [toArc]
      · rfl
theorem stepsL_arcs (c : Chn) (f : Nat → Int) (m : List Int) : (stepsL c m).map (toArc f) = resArcs 0 (salsAt c f) m := steps_arcs c f c.sales m 0
theorem steps_mem {c : Chn} : ∀ (S : List Sale) (m : List Int) (i : Nat) (s : Stp), s ∈ stepsGo c i S m → ∃ (j : Nat) (x : Sale) (y : Int), S[j]? = some x ∧ m[j]? = some y ∧ s.sale = ((i + j : Nat) : Int) ∧ ((s.src = houseI c x.seller ∧ s.dst = houseI c x.buyer ∧ s.more = 1 ∧ y < x.bales) ∨ (s.src = houseI c x.buyer ∧ s.dst = houseI c x.seller ∧ s.more = -1 ∧ 0 < y))
  | [], _, _, _, h => by simp [stepsGo] at h
  | _ :: _, [], _, _, h => by simp [stepsGo] at h
  | x :: S, y :: m, i, s, h => by
    unfold stepsGo at h
    rw [List.mem_append, List.mem_append] at h
    rcases h with h | h | h
    · split at h
      · simp only [List.mem_singleton] at h; subst h
        exact ⟨0, x, y, rfl, rfl, rfl, .inl ⟨rfl, rfl, rfl, by assumption⟩⟩
      · cases h
    · split at h
      · simp only [List.mem_singleton] at h; subst h
        exact ⟨0, x, y, rfl, rfl, rfl, .inr ⟨rfl, rfl, rfl, by assumption⟩⟩
      · cases h
    · obtain ⟨j, x', y', h1, h2, h3, h4⟩ := steps_mem S m (i + 1) s h
      exact ⟨j + 1, x', y', by simpa using h1, by simpa using h2, by rw [h3]; congr 1; omega, h4⟩
theorem steps_count (c : Chn) : ∀ (S : List Sale) (m : List Int) (i : Nat), (stepsGo c i S m).length ≤ 2 * S.length
  | [], _, _ => by simp [stepsGo]
  | _ :: _, [], _ => by simp [stepsGo]
  | x :: S, y :: m, i => by
    have := steps_count c S m (i + 1)
    unfold stepsGo
    simp only [List.length_append, List.length_cons]
    split <;> split <;> simp <;> omega
/-- What is known of a step. -/
structure StpOk (c : Chn) (s : Stp) : Prop where
  s0 : 0 ≤ s.src
  s1 : s.src < c.houses.length
  d0 : 0 ≤ s.dst
  d1 : s.dst < c.houses.length
  a0 : 0 ≤ s.sale
  a1 : s.sale < c.sales.length
  m : s.more = 1 ∨ s.more = -1
theorem stepsL_ok {c : Chn} (h : Right c) {m : List Int} {s : Stp} (hs : s ∈ stepsL c m) : StpOk c s := by
  obtain ⟨j, x, y, h1, _, h3, h4⟩ := steps_mem c.sales m 0 s hs
  obtain ⟨_, h5, h6, _⟩ := h.sale x (List.mem_of_getElem? h1)
  have a := houseI_lt h5
  have b := houseI_lt h6
  have hj : j < c.sales.length := (List.getElem?_eq_some_iff.1 h1).1
  rcases h4 with ⟨e1, e2, e3, _⟩ | ⟨e1, e2, e3, _⟩ <;> exact ⟨by omega, by omega, by omega, by omega, by omega, by omega, by omega⟩

def plusL (a d : List Int) (t : Int) : List Int := List.zipWith (fun x y => x + t * y) a d
def cmpL : List Int → List Int → Int
  | x :: a, y :: b => if x < y then -1 else if y < x then 1 else cmpL a b
  | [], [] => 0
  | [], _ :: _ => -1
  | _ :: _, [] => 1
theorem plusL_len (a d : List Int) (t : Int) : (plusL a d t).length = min a.length d.length := by simp [plusL]
theorem digits_plus (β t : Int) : ∀ (a d : List Int), a.length = d.length → digits β (plusL a d t) = digits β a + t * digits β d
  | [], [], _ => by simp [plusL, digits]
  | x :: a, y :: d, h => by
    have hl : a.length = d.length := by simpa using h
    have ih := digits_plus β t a d hl
    have h2 : (plusL a d t).length = a.length := by rw [plusL_len]; omega
    show (x + t * y) * β ^ (plusL a d t).length + digits β (plusL a d t) = _
    rw [ih, h2]
    simp only [digits, Int.add_mul, Int.mul_add]
    rw [hl, Int.mul_assoc]
    omega
  | [], _ :: _, h => by simp at h
  | _ :: _, [], h => by simp at h
/-- No entry is greater than K. -/
def Bd (K : Int) (a : List Int) : Prop := ∀ x ∈ a, -K ≤ x ∧ x ≤ K
theorem digits_abs : ∀ (a : List Int), Bd 800 a → - (1000 : Int) ^ a.length < digits 1000 a ∧ digits 1000 a < (1000 : Int) ^ a.length
  | [], _ => by simp [digits]
  | x :: a, h => by
    obtain ⟨h1, h2⟩ := digits_abs a fun y hy => h y (by simp [hy])
    obtain ⟨h3, h4⟩ := h x (by simp)
    have hp : 0 < (1000 : Int) ^ a.length := Int.pow_pos (by decide)
    have a1 : x * (1000 : Int) ^ a.length ≤ 800 * 1000 ^ a.length := Int.mul_le_mul_of_nonneg_right h4 (by omega)
    have a2 : (-800) * (1000 : Int) ^ a.length ≤ x * 1000 ^ a.length := Int.mul_le_mul_of_nonneg_right h3 (by omega)
    simp only [digits, List.length_cons, Int.pow_succ]
    omega
theorem cmp_digits : ∀ (a b : List Int), a.length = b.length → Bd 400 a → Bd 400 b → (cmpL a b < 0 ↔ digits 1000 a < digits 1000 b)
  | [], [], _, _, _ => by simp [cmpL, digits]
  | x :: a, y :: b, h, ha, hb => by
    have hl : a.length = b.length := by simpa using h
    have ih := cmp_digits a b hl (fun z hz => ha z (by simp [hz])) (fun z hz => hb z (by simp [hz]))
    have hd : digits 1000 (plusL a b (-1)) = digits 1000 a + -1 * digits 1000 b := digits_plus 1000 (-1) a b hl
    have hB : Bd 800 (plusL a b (-1)) := by
      intro z hz
      unfold plusL at hz
      rw [List.mem_iff_getElem?] at hz
      obtain ⟨k, hk⟩ := hz
      rw [List.getElem?_zipWith] at hk
      cases h1 : a[k]? with
      | none => rw [h1] at hk; simp at hk
      | some p =>
        cases h2 : b[k]? with
        | none => rw [h1, h2] at hk; simp at hk
        | some q =>
          rw [h1, h2] at hk
          simp at hk
          have := ha p (by simp [List.mem_of_getElem? h1])
          have := hb q (by simp [List.mem_of_getElem? h2])
          omega
    obtain ⟨d1, d2⟩ := digits_abs _ hB
    rw [plusL_len, ← hl, Nat.min_self] at d1 d2
    simp only [digits, cmpL, hl] at *
    have hp : 0 < (1000 : Int) ^ b.length := Int.pow_pos (by decide)
    rcases Int.lt_trichotomy x y with h1 | h1 | h1
    · rw [if_pos h1]
      have : (x + 1) * (1000 : Int) ^ b.length ≤ y * 1000 ^ b.length := Int.mul_le_mul_of_nonneg_right (by omega) (by omega)
      rw [Int.add_mul] at this
      constructor
      · intro _; omega
      · intro _; decide
    · subst h1
      rw [if_neg (by omega), if_neg (by omega), ih]
      constructor <;> intro _ <;> omega
    · rw [if_neg (by omega), if_pos h1]
      have : (y + 1) * (1000 : Int) ^ b.length ≤ x * 1000 ^ b.length := Int.mul_le_mul_of_nonneg_right (by omega) (by omega)
      rw [Int.add_mul] at this
      constructor
      · intro h; exact absurd h (by decide)
      · intro _; omega
  | [], _ :: _, h, _, _ => by simp at h
  | _ :: _, [], h, _, _ => by simp at h

/-- What is known of a house is bettered by a step. -/
def relaxR (C : List (List Int)) (l : List Rch) (s : Stp) : List Rch :=
  match l[s.src.toNat]?, l[s.dst.toNat]?, C[s.sale.toNat]? with
  | some a, some b, some d => if a.is && (!b.is || decide (cmpL (plusL a.cost d s.more) b.cost < 0)) then l.set s.dst.toNat ⟨true, plusL a.cost d s.more, s⟩ else l
  | _, _, _ => l
theorem relaxR_len (C : List (List Int)) (l : List Rch) (s : Stp) : (relaxR C l s).length = l.length := by
  unfold relaxR
  split
  · split <;> simp
  · rfl
theorem foldR_len (C : List (List Int)) : ∀ (L : List Stp) (l : List Rch), (L.foldl (relaxR C) l).length = l.length
  | [], _ => rfl
  | s :: L, l => by rw [List.foldl_cons, foldR_len C L, relaxR_len]
/-- The costs that are given: twelve numbers each, small. -/
structure Costs (f : Nat → Int) (C : List (List Int)) : Prop where
  l : ∀ (i : Nat) (d : List Int), C[i]? = some d → d.length = 12 ∧ Bd 1 d ∧ digits 1000 d = f i
/-- What is known, as small as K. -/
def Small (K : Int) (l : List Rch) : Prop := ∀ r ∈ l, r.cost.length = 12 ∧ Bd K r.cost
theorem Small.mono {K K' : Int} {l : List Rch} (h : Small K l) (hk : K ≤ K') : Small K' l := fun r hr => ⟨(h r hr).1, fun x hx => by have := (h r hr).2 x hx; omega⟩
theorem plus_bd {K t : Int} {a d : List Int} (ha : Bd K a) (hd : Bd 1 d) (ht : t = 1 ∨ t = -1) : Bd (K + 1) (plusL a d t) := by
  intro z hz
  unfold plusL at hz
  rw [List.mem_iff_getElem?] at hz
  obtain ⟨k, hk⟩ := hz
  rw [List.getElem?_zipWith] at hk
  cases h1 : a[k]? with
  | none => rw [h1] at hk; simp at hk
  | some p =>
    cases h2 : d[k]? with
    | none => rw [h1, h2] at hk; simp at hk
    | some q =>
      rw [h1, h2] at hk
      simp at hk
      have := ha p (List.mem_of_getElem? h1)
      have := hd q (List.mem_of_getElem? h2)
      rcases ht with rfl | rfl <;> omega
theorem Small.relax {K : Int} {f : Nat → Int} {C : List (List Int)} {l : List Rch} {s : Stp} (h : Small K l) (hC : Costs f C) (hs : s.more = 1 ∨ s.more = -1) : Small (K + 1) (relaxR C l s) := by
  unfold relaxR
  split
  · rename_i a b d ha hb hd
    split
    · intro r hr
      rcases List.mem_or_eq_of_mem_set hr with hr | rfl
      · exact h.mono (by omega) r hr
      · obtain ⟨c1, c2, _⟩ := hC.l _ _ hd
        obtain ⟨a1, a2⟩ := h a (List.mem_of_getElem? ha)
        exact ⟨by rw [plusL_len, a1, c1]; rfl, plus_bd a2 c2 hs⟩
    · exact h.mono (by omega)
  · exact h.mono (by omega)
theorem Small.fold {f : Nat → Int} {C : List (List Int)} (hC : Costs f C) : ∀ (L : List Stp) {K : Int} {l : List Rch}, (∀ s ∈ L, s.more = 1 ∨ s.more = -1) → Small K l → Small (K + L.length) (L.foldl (relaxR C) l)
  | [], K, l, _, h => h.mono (by simp)
  | s :: L, K, l, hL, h => by
    have := Small.fold hC L (fun t ht => hL t (by simp [ht])) (h.relax hC (hL s (by simp)))
    refine this.mono ?_
    simp only [List.length_cons]
    omega

/-- The list of what is known is what the passes know. -/
structure Corr (f : Nat → Int) (n : Nat) (l : List Rch) (σ : BF) : Prop where
  len : l.length = n
  d : ∀ (v : Nat) (r : Rch), l[v]? = some r → σ.d v = if r.is then some (digits 1000 r.cost) else none
  p : ∀ (v : Nat) (r : Rch), l[v]? = some r → σ.p v = if 0 ≤ r.by'.sale then some (toArc f r.by') else none
theorem Corr.relax {f : Nat → Int} {n : Nat} {l : List Rch} {σ : BF} {c : Chn} {C : List (List Int)} {s : Stp} {K : Int} (h : Corr f n l σ) (hC : Costs f C) (hK : Small K l) (hK4 : K + 1 ≤ 400) (hs : StpOk c s) (hn : n = c.houses.length) (hCl : C.length = c.sales.length) :
    Corr f n (relaxR C l s) (relax σ (toArc f s)) := by
  have hl := h.len
  have h1 : s.src.toNat < l.length := by have := hs.s0; have := hs.s1; omega
  have h2 : s.dst.toNat < l.length := by have := hs.d0; have := hs.d1; omega
  have h3 : s.sale.toNat < C.length := by have := hs.a0; have := hs.a1; omega
  have e1 := List.getElem?_eq_getElem h1
  have e2 := List.getElem?_eq_getElem h2
  have e3 := List.getElem?_eq_getElem h3
  generalize l[s.src.toNat] = a at *
  generalize l[s.dst.toNat] = b at *
  generalize C[s.sale.toNat] = d at *
  have d1 := h.d _ _ e1
  have d2 := h.d _ _ e2
  obtain ⟨c1, c2, c3⟩ := hC.l _ _ e3
  obtain ⟨a1, a2⟩ := hK a (List.mem_of_getElem? e1)
  obtain ⟨b1, b2⟩ := hK b (List.mem_of_getElem? e2)
  have dp : digits 1000 (plusL a.cost d s.more) = digits 1000 a.cost + (toArc f s).w := by
    rw [digits_plus _ _ _ _ (by rw [a1, c1]), c3]
    show _ = _ + f s.sale.toNat * s.more
    rw [Int.mul_comm (f _)]
  have hcmp := cmp_digits (plusL a.cost d s.more) b.cost (by rw [plusL_len, a1, c1, b1]; rfl) (fun x hx => by have := plus_bd a2 c2 hs.m x hx; omega) (fun x hx => by have := b2 x hx; omega)
  unfold relaxR Go.Proofs.YtafdbgielmlihaaDoor.relax
  rw [e1, e2, e3]
  show Corr f n _ (match σ.d s.src.toNat with | none => σ | some x => if lessO (x + (toArc f s).w) (σ.d s.dst.toNat) then ⟨upd σ.d s.dst.toNat (some (x + (toArc f s).w)), upd σ.p s.dst.toNat (some (toArc f s))⟩ else σ)
  simp only
  cases hai : a.is with
  | false =>
    rw [hai] at d1
    simp only [Bool.false_eq_true, if_false] at d1
    rw [d1]
    simpa using h
  | true =>
    rw [hai] at d1
    simp only [if_true] at d1
    rw [d1]
    simp only [Bool.true_and]
    have hless : (!b.is || decide (cmpL (plusL a.cost d s.more) b.cost < 0)) = lessO (digits 1000 a.cost + (toArc f s).w) (σ.d s.dst.toNat) := by
      rw [d2]
      cases hbi : b.is with
      | false => rfl
      | true =>
        simp only [if_true, lessO, Bool.not_true, Bool.false_or]
        rw [← dp]
        exact decide_eq_decide.2 hcmp
    rw [hless]
    cases hl2 : lessO (digits 1000 a.cost + (toArc f s).w) (σ.d s.dst.toNat) with
    | false => simpa using h
    | true =>
      simp only [if_true]
      refine ⟨by simpa using hl, fun v r hr => ?_, fun v r hr => ?_⟩
      · rw [List.getElem?_set] at hr
        by_cases hv : s.dst.toNat = v
        · subst hv
          rw [if_pos rfl, if_pos h2] at hr
          injection hr with hr
          subst hr
          simp only [upd_self, if_true, dp]
        · rw [if_neg hv] at hr
          show upd _ _ _ v = _
          rw [upd_ne _ _ (fun e => hv e.symm)]
          exact h.d v r hr
      · rw [List.getElem?_set] at hr
        by_cases hv : s.dst.toNat = v
        · subst hv
          rw [if_pos rfl, if_pos h2] at hr
          injection hr with hr
          subst hr
          simp only [upd_self]
          rw [if_pos hs.a0]
        · rw [if_neg hv] at hr
          show upd _ _ _ v = _
          rw [upd_ne _ _ (fun e => hv e.symm)]
          exact h.p v r hr
theorem Corr.fold {f : Nat → Int} {n : Nat} {c : Chn} {C : List (List Int)} (hC : Costs f C) (hn : n = c.houses.length) (hCl : C.length = c.sales.length) : ∀ (L : List Stp) {K : Int} {l : List Rch} {σ : BF}, (∀ s ∈ L, StpOk c s) → Small K l → K + L.length ≤ 400 → Corr f n l σ →
    Corr f n (L.foldl (relaxR C) l) ((L.map (toArc f)).foldl Go.Proofs.YtafdbgielmlihaaDoor.relax σ)
  | [], _, _, _, _, _, _, h => h
  | s :: L, K, l, σ, hL, hK, hk, h => by
    simp only [List.length_cons] at hk
    rw [List.map_cons, List.foldl_cons, List.foldl_cons]
    exact Corr.fold hC hn hCl L (fun t ht => hL t (by simp [ht])) (hK.relax hC (hL s (by simp)).m) (by omega) (h.relax hC hK (by omega) (hL s (by simp)) hn hCl)
/-- So many passes. -/
def passesR (C : List (List Int)) (L : List Stp) : Nat → List Rch → List Rch
  | 0, l => l
  | k + 1, l => L.foldl (relaxR C) (passesR C L k l)
theorem passesR_len (C : List (List Int)) (L : List Stp) (l : List Rch) : ∀ k, (passesR C L k l).length = l.length
  | 0 => rfl
  | k + 1 => by rw [passesR, foldR_len, passesR_len C L l k]
theorem passesR_small {f : Nat → Int} {C : List (List Int)} (hC : Costs f C) {L : List Stp} (hL : ∀ s ∈ L, s.more = 1 ∨ s.more = -1) {l : List Rch} (h : Small 0 l) : ∀ k : Nat, Small (k * L.length : Nat) (passesR C L k l)
  | 0 => by simpa [passesR] using h
  | k + 1 => by
    refine (Small.fold hC L hL (passesR_small hC hL h k)).mono ?_
    rw [Nat.succ_mul]
    omega
theorem passesR_corr {f : Nat → Int} {n : Nat} {c : Chn} {C : List (List Int)} (hC : Costs f C) (hn : n = c.houses.length) (hCl : C.length = c.sales.length) {L : List Stp} (hL : ∀ s ∈ L, StpOk c s) {l : List Rch} {σ : BF} (h0 : Small 0 l) (h : Corr f n l σ) :
    ∀ k : Nat, k * L.length ≤ 400 → Corr f n (passesR C L k l) (passes (L.map (toArc f)) k σ)
  | 0, _ => h
  | k + 1, hk => by
    rw [Nat.succ_mul] at hk
    exact Corr.fold hC hn hCl L hL (passesR_small hC (fun s hs => (hL s hs).m) h0 k) (by omega) (passesR_corr hC hn hCl hL h0 h k (by omega))
/-- Houses that owe are come to for nothing. -/
def initR (left : List Int) : List Rch := left.map fun n => ⟨decide (n < 0), List.replicate 12 0, ⟨0, 0, -1, 0⟩⟩
theorem digits_zero (β : Int) : ∀ k, digits β (List.replicate k 0) = 0
  | 0 => rfl
  | k + 1 => by rw [List.replicate_succ, digits, digits_zero β k]; omega
theorem initR_small (left : List Int) : Small 0 (initR left) := by
  intro r hr
  unfold initR at hr
  obtain ⟨n, _, rfl⟩ := List.mem_map.1 hr
  exact ⟨by simp, fun x hx => by have := List.eq_of_mem_replicate hx; omega⟩
theorem initR_corr (f : Nat → Int) (left : List Int) (T : Nat → Bool) (h : ∀ (v : Nat) (y : Int), left[v]? = some y → T v = decide (y < 0)) : Corr f left.length (initR left) (init0 T) := by
  refine ⟨by simp [initR], fun v r hr => ?_, fun v r hr => ?_⟩
  · unfold initR at hr
    rw [List.getElem?_map] at hr
    obtain ⟨y, hy, rfl⟩ := Option.map_eq_some_iff.1 hr
    simp only [init0, h v y hy, digits_zero, decide_eq_true_eq]
  · unfold initR at hr
    rw [List.getElem?_map] at hr
    obtain ⟨y, hy, rfl⟩ := Option.map_eq_some_iff.1 hr
    simp [init0]
end Go.Proofs.YtafdbgielmlihaaDoor
/- How the program's passes and its way back are the plain ones: no program in sight. -/
namespace Go.Proofs.YtafdbgielmlihaaDoor
open Go.RowKit Go.Shelf

theorem chain_snoc {p : Nat → Option Arc} : ∀ (j : Nat) (v u : Nat) (a : Arc), backK p j v = some u → p u = some a → chainArcs p (j + 1) v = chainArcs p j v ++ [a]
  | 0, v, u, a, h, ha => by
    have : v = u := by simpa [backK] using h
    subst this
    simp [chainArcs, ha]
  | j + 1, v, u, a, h, ha => by
    unfold backK at h
    cases hv : p v with
    | none => rw [hv] at h; cases h
    | some b =>
      rw [hv] at h
      have ih := chain_snoc j b.src u a h ha
      have e1 : chainArcs p (j + 1 + 1) v = b :: chainArcs p (j + 1) b.src := by rw [chainArcs, hv]
      have e2 : chainArcs p (j + 1) v = b :: chainArcs p j b.src := by rw [chainArcs, hv]
      rw [e1, e2, ih]
      rfl
theorem back_snoc {p : Nat → Option Arc} {j v u : Nat} {a : Arc} (h : backK p j v = some u) (ha : p u = some a) : backK p (j + 1) v = some a.src := by
  rw [back_add, h]
  show backK p 1 u = _
  simp [backK, ha]
theorem back_end {p : Nat → Option Arc} {j k v u r : Nat} (h : backK p j v = some u) (hu : p u = none) (hk : backK p k v = some r) (hjk : j ≤ k) : j = k ∧ u = r := by
  by_cases e : j = k
  · subst e
    rw [h] at hk
    injection hk with hk
    exact ⟨rfl, hk⟩
  · have h1 := back_add p j (k - j) v
    rw [h, show j + (k - j) = k by omega, hk] at h1
    obtain ⟨d, hd⟩ : ∃ d, k - j = d + 1 := ⟨k - j - 1, by omega⟩
    rw [hd] at h1
    change some r = backK p (d + 1) u at h1
    rw [backK, hu] at h1
    cases h1
theorem back_not_end {p : Nat → Option Arc} {j k v u r : Nat} {a : Arc} (h : backK p j v = some u) (hu : p u = some a) (hk : backK p k v = some r) (hr : p r = none) (hjk : j ≤ k) : j < k := by
  by_cases e : j = k
  · subst e
    rw [h] at hk
    injection hk with hk
    subst hk
    rw [hu] at hr
    cases hr
  · omega
theorem walked_snoc (m : List Int) (L : List Arc) (a : Arc) : walked m (L ++ [a]) = stepM (walked m L) a := by simp [walked]
theorem toArc_step (f : Nat → Int) (s : Stp) (m : List Int) (h0 : 0 ≤ s.sale) (hm : s.more = 1 ∨ s.more = -1) : stepM m (toArc f s) = bump m s.sale.toNat s.more := by
  unfold stepM toArc
  simp only
  rcases hm with h | h
  · rw [h, if_pos (show (0 : Int) < 1 by decide), if_pos (by omega), show (1 + s.sale - 1).toNat = s.sale.toNat by omega]
  · rw [h, if_neg (show ¬ (0 : Int) < -1 by decide), if_neg (by omega), show (-1 - (-1 - s.sale)).toNat = s.sale.toNat by omega]
theorem bump_set {m : List Int} {i : Nat} {y δ : Int} (h : m[i]? = some y) : bump m i δ = m.set i (y + δ) := by
  apply List.ext_getElem?
  intro j
  rw [bump_get, List.getElem?_set]
  by_cases e : i = j
  · subst e
    rw [if_pos rfl, if_pos (List.getElem?_eq_some_iff.1 h).1, h]
    simp
  · rw [if_neg e]
    simp [e]
/-- The steps that are known are steps. -/
def OkR (c : Chn) (R : List Rch) : Prop := ∀ r ∈ R, 0 ≤ r.by'.sale → StpOk c r.by'
theorem OkR.init (c : Chn) (left : List Int) : OkR c (initR left) := by
  intro r hr h
  unfold initR at hr
  obtain ⟨n, _, rfl⟩ := List.mem_map.1 hr
  simp at h
theorem OkR.relax {c : Chn} {C : List (List Int)} {R : List Rch} {s : Stp} (h : OkR c R) (hs : StpOk c s) : OkR c (relaxR C R s) := by
  unfold relaxR
  split
  · split
    · intro r hr h0
      rcases List.mem_or_eq_of_mem_set hr with hr | rfl
      · exact h r hr h0
      · exact hs
    · exact h
  · exact h
theorem OkR.fold {c : Chn} {C : List (List Int)} : ∀ (L : List Stp) {R : List Rch}, OkR c R → (∀ s ∈ L, StpOk c s) → OkR c (L.foldl (relaxR C) R)
  | [], _, h, _ => h
  | s :: L, R, h, hs => OkR.fold L (h.relax (hs s (by simp))) fun t ht => hs t (by simp [ht])
theorem OkR.passes {c : Chn} {C : List (List Int)} {L : List Stp} (hs : ∀ s ∈ L, StpOk c s) {R : List Rch} (h : OkR c R) : ∀ k, OkR c (passesR C L k R)
  | 0 => h
  | k + 1 => OkR.fold L (OkR.passes hs h k) hs
theorem bump_bd {B : Int} {m : List Int} {i : Nat} {δ : Int} (h : ∀ y ∈ m, -B ≤ y ∧ y ≤ B) (hδ : δ = 1 ∨ δ = -1) : ∀ y ∈ bump m i δ, -(B + 1) ≤ y ∧ y ≤ B + 1 := by
  intro y hy
  obtain ⟨k, hk⟩ := List.getElem?_of_mem hy
  rw [bump_get] at hk
  obtain ⟨z, hz, rfl⟩ := Option.map_eq_some_iff.1 hk
  have := h z (List.mem_of_getElem? hz)
  split <;> rcases hδ with rfl | rfl <;> omega
theorem stepM_bd {B : Int} {m : List Int} (a : Arc) (h : ∀ y ∈ m, -B ≤ y ∧ y ≤ B) : ∀ y ∈ stepM m a, -(B + 1) ≤ y ∧ y ≤ B + 1 := by
  unfold stepM
  split
  · exact bump_bd h (.inl rfl)
  · exact bump_bd h (.inr rfl)
theorem walked_bd : ∀ (L : List Arc) {B : Int} {m : List Int}, (∀ y ∈ m, -B ≤ y ∧ y ≤ B) → ∀ y ∈ walked m L, -(B + L.length) ≤ y ∧ y ≤ B + L.length
  | [], B, m, h, y, hy => by have := h y hy; simp; omega
  | a :: L, B, m, h, y, hy => by
    have := walked_bd L (stepM_bd a h) y hy
    simp only [List.length_cons]
    omega
theorem chain_len (p : Nat → Option Arc) : ∀ (k v : Nat), (chainArcs p k v).length ≤ k
  | 0, _ => by simp [chainArcs]
  | k + 1, v => by
    unfold chainArcs
    split
    · simp
    · rename_i a _
      have := chain_len p k a.src
      simp; omega
end Go.Proofs.YtafdbgielmlihaaDoor
/- The reference's rings, in plain words: the last pass says whether one is left. -/
namespace Go.Proofs.YtafdbgielmlihaaDoor
open Go.RowKit Go.Shelf

/-- Whether a step betters what is known. -/
def betters (σ : BF) (a : Arc) : Bool := match σ.d a.src with
  | some x => lessO (x + a.w) (σ.d a.dst)
  | none => false
theorem relax_no {σ : BF} {a : Arc} (h : betters σ a = false) : relax σ a = σ := by
  unfold betters at h
  unfold Go.Proofs.YtafdbgielmlihaaDoor.relax
  split at h
  · rename_i x hx
    rw [hx]
    simp only
    rw [h]
    simp
  · rename_i hx
    rw [hx]
theorem relax_yes {σ : BF} {a : Arc} {x : Int} (hx : σ.d a.src = some x) (h : betters σ a = true) : relax σ a = ⟨upd σ.d a.dst (some (x + a.w)), upd σ.p a.dst (some a)⟩ := by
  unfold betters at h
  rw [hx] at h
  simp only at h
  unfold Go.Proofs.YtafdbgielmlihaaDoor.relax
  rw [hx]
  simp only
  rw [h]
  simp
/-- The passes, and the house that was bettered last. -/
def relaxL (s : BF × Option Nat) (a : Arc) : BF × Option Nat := (relax s.1 a, if betters s.1 a then some a.dst else s.2)
theorem foldL_fst : ∀ (A : List Arc) (s : BF × Option Nat), (A.foldl relaxL s).1 = pass A s.1
  | [], _ => rfl
  | a :: A, s => by
    rw [List.foldl_cons, foldL_fst A]
    rfl
theorem foldL_no : ∀ (A : List Arc) (σ : BF) (o : Option Nat), (A.foldl relaxL (σ, o)).2 = none → o = none ∧ (A.foldl relaxL (σ, o)).1 = σ ∧ ∀ a ∈ A, betters σ a = false
  | [], σ, o, h => ⟨h, rfl, fun a ha => by cases ha⟩
  | a :: A, σ, o, h => by
    rw [List.foldl_cons] at h ⊢
    cases hb : betters σ a with
    | true =>
      have e : relaxL (σ, o) a = (relax σ a, some a.dst) := by unfold relaxL; simp [hb]
      rw [e] at h
      have := (foldL_no A _ _ h).1
      cases this
    | false =>
      have e : relaxL (σ, o) a = (σ, o) := by unfold relaxL; simp [hb, relax_no hb]
      rw [e] at h ⊢
      obtain ⟨h1, h2, h3⟩ := foldL_no A _ _ h
      exact ⟨h1, h2, fun c hc => by
        rcases List.mem_cons.1 hc with rfl | hc
        · exact hb
        · exact h3 c hc⟩
theorem foldL_yes : ∀ (A : List Arc) (σ : BF) (o : Option Nat) (v : Nat), (A.foldl relaxL (σ, o)).2 = some v → (o = some v) ∨ ((∃ a ∈ A, a.dst = v) ∧ ∃ y, (A.foldl relaxL (σ, o)).1.d v = some y ∧ lessO y (σ.d v) = true)
  | [], σ, o, v, h => .inl h
  | a :: A, σ, o, v, h => by
    rw [List.foldl_cons] at h ⊢
    rcases foldL_yes A (relax σ a) (if betters σ a then some a.dst else o) v h with h1 | ⟨⟨c, hc, e⟩, y, hy, hl⟩
    · cases hb : betters σ a with
      | false => rw [hb] at h1; simp at h1; exact .inl h1
      | true =>
        rw [hb] at h1
        simp at h1
        right
        refine ⟨⟨a, by simp, h1⟩, ?_⟩
        have hs : ∃ x, σ.d a.src = some x := by
          unfold betters at hb
          split at hb
          · rename_i x hx; exact ⟨x, hx⟩
          · cases hb
        obtain ⟨x, hx⟩ := hs
        have hr := relax_yes hx hb
        have hd : (relax σ a).d v = some (x + a.w) := by rw [hr, ← h1]; exact upd_self _ _ _
        have e1 : (A.foldl relaxL (relaxL (σ, o) a)).1 = pass A (relax σ a) := by rw [foldL_fst]; rfl
        obtain ⟨y, hy, hle⟩ := pass_better A (relax σ a) v _ hd
        refine ⟨y, by rw [e1]; exact hy, ?_⟩
        unfold betters at hb
        rw [hx] at hb
        simp only at hb
        rw [h1] at hb
        cases hz : σ.d v with
        | none => rfl
        | some z =>
          rw [hz] at hb
          simp only [lessO, decide_eq_true_eq] at hb ⊢
          omega
    · right
      refine ⟨⟨c, by simp [hc], e⟩, y, hy, ?_⟩
      obtain hbt := relax_better σ a v
      unfold lessO at hl ⊢
      cases hz : σ.d v with
      | none => rfl
      | some z =>
        obtain ⟨w, hw, hwz⟩ := hbt z hz
        rw [hw] at hl
        simp at hl ⊢
        omega
/-- The arc that a number names: 1 and the sale's place; below 0, if it goes back. -/
def arcT (S : List Sal) (b : Int) : Option Arc := if 0 < b then (S[(b - 1).toNat]?).map fun x => fwd x (b - 1).toNat else if b < 0 then (S[(-1 - b).toNat]?).map fun x => bwd x (-1 - b).toNat else none
/-- The two lists of the reference are what the passes know. -/
structure CorrI (S : List Sal) (n : Nat) (cost by' : List Int) (σ : BF) : Prop where
  lc : cost.length = n
  lb : by'.length = n
  d : ∀ (v : Nat) (y : Int), cost[v]? = some y → σ.d v = some y
  p : ∀ (v : Nat) (b : Int), by'[v]? = some b → σ.p v = arcT S b
  ok : ∀ b ∈ by', b ≠ 0 → (arcT S b).isSome = true
theorem CorrI.init (S : List Sal) (n : Nat) : CorrI S n (List.replicate n 0) (List.replicate n 0) (init0 fun _ => true) := by
  refine ⟨by simp, by simp, fun v y h => ?_, fun v b h => ?_, fun b hb h => ?_⟩
  · have := List.eq_of_mem_replicate (List.mem_of_getElem? h)
    subst this; rfl
  · have := List.eq_of_mem_replicate (List.mem_of_getElem? h)
    subst this; rfl
  · exact absurd (List.eq_of_mem_replicate hb) h
/-- A step that betters. -/
theorem CorrI.better {S : List Sal} {n : Nat} {cost by' : List Int} {σ : BF} (h : CorrI S n cost by' σ) {a : Arc} {b x y : Int} (ha : arcT S b = some a) (hs : cost[a.src]? = some x) (hd : cost[a.dst]? = some y) (hlt : x + a.w < y) :
    CorrI S n (cost.set a.dst (x + a.w)) (by'.set a.dst b) (relax σ a) ∧ betters σ a = true := by
  have hb : betters σ a = true := by
    unfold betters
    rw [h.d _ _ hs, h.d _ _ hd]
    simp [lessO, hlt]
  refine ⟨?_, hb⟩
  rw [relax_yes (h.d _ _ hs) hb]
  have hdl : a.dst < cost.length := (List.getElem?_eq_some_iff.1 hd).1
  refine ⟨by simp [h.lc], by simp [h.lb], fun v z hz => ?_, fun v z hz => ?_, fun z hz h0 => ?_⟩
  · rw [List.getElem?_set] at hz
    by_cases e : a.dst = v
    · subst e
      rw [if_pos rfl, if_pos hdl] at hz
      injection hz with hz
      subst hz
      exact upd_self _ _ _
    · rw [if_neg e] at hz
      show upd _ _ _ v = _
      rw [upd_ne _ _ (fun e' => e e'.symm)]
      exact h.d v z hz
  · rw [List.getElem?_set] at hz
    by_cases e : a.dst = v
    · subst e
      rw [if_pos rfl, if_pos (by rw [h.lb, ← h.lc]; exact hdl)] at hz
      injection hz with hz
      subst hz
      rw [ha]
      exact upd_self _ _ _
    · rw [if_neg e] at hz
      show upd _ _ _ v = _
      rw [upd_ne _ _ (fun e' => e e'.symm)]
      exact h.p v z hz
  · rcases List.mem_or_eq_of_mem_set hz with hz | rfl
    · exact h.ok z hz h0
    · rw [ha]; rfl
theorem CorrI.stays {S : List Sal} {n : Nat} {cost by' : List Int} {σ : BF} (h : CorrI S n cost by' σ) {a : Arc} {x y : Int} (hs : cost[a.src]? = some x) (hd : cost[a.dst]? = some y) (hlt : ¬ x + a.w < y) : relax σ a = σ ∧ betters σ a = false := by
  have hb : betters σ a = false := by
    unfold betters
    rw [h.d _ _ hs, h.d _ _ hd]
    simp [lessO]; omega
  exact ⟨relax_no hb, hb⟩
/-! Sale by sale. -/
theorem res_snoc : ∀ (S : List Sal) (m : List Int) (i : Nat) (x : Sal) (y : Int), S.length = m.length →
    resArcs i (S ++ [x]) (m ++ [y]) = resArcs i S m ++ ((if y < x.cap then [fwd x (i + S.length)] else []) ++ (if 0 < y then [bwd x (i + S.length)] else []))
  | [], [], i, x, y, _ => by simp [resArcs, fwd, bwd]
  | z :: S, a :: m, i, x, y, h => by
    have ih := res_snoc S m (i + 1) x y (by simpa using h)
    simp only [List.cons_append, resArcs] at ih ⊢
    rw [ih, show i + 1 + S.length = i + (z :: S).length by simp; omega]
    simp only [List.append_assoc]
  | [], _ :: _, _, _, _, h => by simp at h
  | _ :: _, [], _, _, _, h => by simp at h
def resTo (S : List Sal) (m : List Int) (k : Nat) : List Arc := resArcs 0 (S.take k) (m.take k)
theorem resTo_succ {S : List Sal} {m : List Int} {k : Nat} {x : Sal} {y : Int} (hx : S[k]? = some x) (hy : m[k]? = some y) :
    resTo S m (k + 1) = resTo S m k ++ ((if y < x.cap then [fwd x k] else []) ++ (if 0 < y then [bwd x k] else [])) := by
  have h1 : k < S.length := (List.getElem?_eq_some_iff.1 hx).1
  have h2 : k < m.length := (List.getElem?_eq_some_iff.1 hy).1
  have h3 : (S.take k).length = k := by rw [List.length_take]; omega
  have h4 : (m.take k).length = k := by rw [List.length_take]; omega
  have e1 : S.take (k + 1) = S.take k ++ [x] := by rw [List.take_add_one, hx]; rfl
  have e2 : m.take (k + 1) = m.take k ++ [y] := by rw [List.take_add_one, hy]; rfl
  unfold resTo
  rw [e1, e2, res_snoc _ _ _ _ _ (by rw [h3, h4]), h3, Nat.zero_add]
theorem resTo_all {S : List Sal} {m : List Int} {k : Nat} (h1 : S.length ≤ k) (h2 : m.length ≤ k) : resTo S m k = resArcs 0 S m := by
  unfold resTo
  rw [List.take_of_length_le h1, List.take_of_length_le h2]
theorem arcT_fwd {S : List Sal} {k : Nat} {x : Sal} (h : S[k]? = some x) : arcT S (1 + (k : Int)) = some (fwd x k) := by
  unfold arcT
  rw [if_pos (by omega), show (1 + (k : Int) - 1).toNat = k by omega, h]
  rfl
theorem arcT_bwd {S : List Sal} {k : Nat} {x : Sal} (h : S[k]? = some x) : arcT S (-1 - (k : Int)) = some (bwd x k) := by
  unfold arcT
  rw [if_neg (by omega), if_pos (by omega), show (-1 - (-1 - (k : Int))).toNat = k by omega, h]
  rfl
theorem arcT_zero (S : List Sal) : arcT S 0 = none := rfl
def lastI : Option Nat → Int
  | none => -1
  | some v => v
def Wide (K : Int) (l : List Int) : Prop := ∀ y ∈ l, -(K * 20000000000000) ≤ y ∧ y ≤ K * 20000000000000
theorem Wide.mono {K K' : Int} {l : List Int} (h : Wide K l) (hk : K ≤ K') : Wide K' l := fun y hy => by have := h y hy; omega
theorem Wide.set {K : Int} {l : List Int} {i : Nat} {x : Int} (h : Wide K l) (hx : -((K + 1) * 20000000000000) ≤ x ∧ x ≤ (K + 1) * 20000000000000) : Wide (K + 1) (l.set i x) := by
  intro y hy
  rcases List.mem_or_eq_of_mem_set hy with hy | rfl
  · exact h.mono (by omega) y hy
  · exact hx
/-- The state of a pass of the reference. -/
structure RdS (S : List Sal) (n : Nat) (K : Int) (cost by' : List Int) (la : Int) (s : BF × Option Nat) : Prop where
  c : CorrI S n cost by' s.1
  l : la = lastI s.2
  w : Wide K cost
theorem RdS.fwd_yes {S : List Sal} {n kk : Nat} {K : Int} {cost by' : List Int} {la : Int} {s : BF × Option Nat} (h : RdS S n K cost by' la s) {x : Sal} {P Q : Int} (hx : S[kk]? = some x) (hP : cost[x.s]? = some P) (hQ : cost[x.b]? = some Q) (hlt : P + x.c < Q) (hc : -20000000000000 ≤ x.c ∧ x.c ≤ 20000000000000) :
    RdS S n (K + 1) (cost.set x.b (P + x.c)) (by'.set x.b (1 + (kk : Int))) x.b (relaxL s (fwd x kk)) := by
  obtain ⟨h1, h2⟩ := h.c.better (a := fwd x kk) (b := 1 + (kk : Int)) (arcT_fwd hx) hP hQ hlt
  have hw := h.w P (List.mem_of_getElem? hP)
  exact ⟨h1, by unfold relaxL; rw [h2]; rfl, h.w.set (by omega)⟩
theorem RdS.fwd_no {S : List Sal} {n kk : Nat} {K : Int} {cost by' : List Int} {la : Int} {s : BF × Option Nat} (h : RdS S n K cost by' la s) {x : Sal} {P Q : Int} (hP : cost[x.s]? = some P) (hQ : cost[x.b]? = some Q) (hlt : ¬ P + x.c < Q) :
    RdS S n (K + 1) cost by' la (relaxL s (fwd x kk)) := by
  obtain ⟨h1, h2⟩ := h.c.stays (a := fwd x kk) hP hQ hlt
  have e : relaxL s (fwd x kk) = s := by unfold relaxL; rw [h1, h2]; rfl
  rw [e]
  exact ⟨h.c, h.l, h.w.mono (by omega)⟩
theorem RdS.bwd_yes {S : List Sal} {n kk : Nat} {K : Int} {cost by' : List Int} {la : Int} {s : BF × Option Nat} (h : RdS S n K cost by' la s) {x : Sal} {P Q : Int} (hx : S[kk]? = some x) (hP : cost[x.b]? = some P) (hQ : cost[x.s]? = some Q) (hlt : P - x.c < Q) (hc : -20000000000000 ≤ x.c ∧ x.c ≤ 20000000000000) :
    RdS S n (K + 1) (cost.set x.s (P - x.c)) (by'.set x.s (-1 - (kk : Int))) x.s (relaxL s (bwd x kk)) := by
  obtain ⟨h1, h2⟩ := h.c.better (a := bwd x kk) (b := -1 - (kk : Int)) (arcT_bwd hx) hP hQ (by show P + -x.c < Q; omega)
  have hw := h.w P (List.mem_of_getElem? hP)
  have e : P - x.c = P + (bwd x kk).w := by show _ = P + -x.c; omega
  rw [e]
  exact ⟨h1, by unfold relaxL; rw [h2]; rfl, h.w.set (by show -_ ≤ P + -x.c ∧ P + -x.c ≤ _; omega)⟩
theorem RdS.bwd_no {S : List Sal} {n kk : Nat} {K : Int} {cost by' : List Int} {la : Int} {s : BF × Option Nat} (h : RdS S n K cost by' la s) {x : Sal} {P Q : Int} (hP : cost[x.b]? = some P) (hQ : cost[x.s]? = some Q) (hlt : ¬ P - x.c < Q) :
    RdS S n (K + 1) cost by' la (relaxL s (bwd x kk)) := by
  obtain ⟨h1, h2⟩ := h.c.stays (a := bwd x kk) hP hQ (by show ¬ P + -x.c < Q; omega)
  have e : relaxL s (bwd x kk) = s := by unfold relaxL; rw [h1, h2]; rfl
  rw [e]
  exact ⟨h.c, h.l, h.w.mono (by omega)⟩
theorem RdS.mono {S : List Sal} {n : Nat} {K K' : Int} {cost by' : List Int} {la : Int} {s : BF × Option Nat} (h : RdS S n K cost by' la s) (hk : K ≤ K') : RdS S n K' cost by' la s := ⟨h.c, h.l, h.w.mono hk⟩
end Go.Proofs.YtafdbgielmlihaaDoor
/- The end of a region that drew its order: the frame that came in, the region's own slots put in. -/
namespace Go.Proofs.YtafdbgielmlihaaDoor
open Go.RowKit Go.Shelf

/-- The frame l with what ρ gives put into the slots of F. -/
def putF (ρ : Operand → Value) : Facts → List Value → List Value
  | [], l => l
  | (some d, _) :: F, l => putF ρ F (l.set d (ρ (.tmp d)))
  | (none, _) :: F, l => putF ρ F l
theorem putF_len (ρ : Operand → Value) : ∀ (F : Facts) (l : List Value), (putF ρ F l).length = l.length
  | [], l => rfl
  | (some d, _) :: F, l => by rw [putF, putF_len ρ F, List.length_set]
  | (none, _) :: F, l => by rw [putF, putF_len ρ F]
theorem putF_in (ρ : Operand → Value) : ∀ (F : Facts) (l : List Value) (j : Nat), j < l.length → (some j ∈ F.map (·.1) ∨ l[j]? = some (ρ (.tmp j))) → (putF ρ F l)[j]? = some (ρ (.tmp j))
  | [], l, j, _, h => by rw [putF]; simpa using h
  | (some d, U) :: F, l, j, hj, h => by
    rw [putF]
    refine putF_in ρ F _ j (by rw [List.length_set]; exact hj) ?_
    by_cases e : d = j
    · subst e
      right
      rw [List.getElem?_set_self hj]
    · rcases h with h | h
      · rw [List.map_cons, List.mem_cons] at h
        rcases h with h | h
        · injection h with h
          exact absurd h.symm e
        · exact .inl h
      · right
        rw [List.getElem?_set_ne e]
        exact h
  | (none, U) :: F, l, j, hj, h => by
    rw [putF]
    refine putF_in ρ F _ j hj ?_
    rcases h with h | h
    · rw [List.map_cons, List.mem_cons] at h
      rcases h with h | h
      · cases h
      · exact .inl h
    · exact .inr h
section
variable {P : Program} {C : World → Prop} {R : World → World → Prop} {a0 : Act} {ds : List (Option Tmp)} {Q : Act → World → Prop} {n : Nat} {F : Facts}
theorem tame_end_put (hds : F.map (·.1) = ds) (hn : n = F.length) (h : ∀ ρ W, C W → Rd a0 ds ρ → allF F ρ W → Q { tmps := (putF ρ F a0.tmps.toList).toArray, defers := a0.defers } W) : wpTame P C R ds a0 Q n [] F := by
  intro A W hC hS hF
  have hA : A = { tmps := (putF A.eval F a0.tmps.toList).toArray, defers := a0.defers } := by
    obtain ⟨h1, h2, h3⟩ := hS
    obtain ⟨tmps, defers⟩ := A
    simp only at h1 h2
    subst h1
    congr 1
    apply Array.ext_getElem?
    intro j
    by_cases hj : j < tmps.size
    · have e : (Act.mk tmps a0.defers).eval (.tmp j) = tmps[j] := by simp [Act.eval, hj]
      have hp : (putF (Act.mk tmps a0.defers).eval F a0.tmps.toList).toArray[j]? = some tmps[j] := by
        rw [List.getElem?_toArray, putF_in _ F _ j (by simpa using h2 ▸ hj), e]
        by_cases hm : some j ∈ F.map (·.1)
        · exact .inl hm
        · right
          have hni : notIn ds j = true := by
            unfold notIn
            rw [List.all_eq_true]
            intro d hd
            rw [← hds] at hd
            simp only [bne_iff_ne, ne_eq]
            intro e2
            exact hm (e2 ▸ hd)
          rw [h3 j hni]
          have hj2 : j < a0.tmps.size := h2 ▸ hj
          simp [Act.eval, hj2]
      rw [hp]; simp [hj]
    · rw [Array.getElem?_eq_none (by omega), List.getElem?_toArray, List.getElem?_eq_none (by rw [putF_len]; simp; omega)]
  rw [hA]
  exact h A.eval W hC (Rd.of hS) (allF_of _ _ _ (hn ▸ hF))
end
end Go.Proofs.YtafdbgielmlihaaDoor
/- A region that draws its order and whose last two operations stand behind all others: they are walked by themselves, when the others are done. -/
namespace Go.Proofs.YtafdbgielmlihaaDoor
open Go.RowKit Go.Shelf

theorem wp_lastQ' {P : Program} {oL : Oper} {Q : Exit → Act → World → Prop} {o : Oper} {a : Act} {w : World} {K : Act → World → Prop} (hh : o.wp P a w K Q) : o.wp P a w K (lastQ P oL Q) := by
  unfold Oper.wp at *
  generalize (execOp a.eval o).run P w = r at *
  cases r with
  | ok n w' =>
    cases n <;> simp only [Oper.upon] at hh ⊢ <;>
      first
        | exact hh
        | exact Calls.mono hh (fun e w'' he => by cases e <;> exact he)
  | halt x w' => cases x <;> simp only [Oper.upon] at hh ⊢ <;> exact hh

theorem tame_back {l : List Oper} {n : Nat} (hB : tameB l n = true) : ∀ (i : Nat) (o : Oper), l[i]? = some o → (∀ e ∈ o.after, Region.binds .any e = true → e.on < i) ∧ ∀ (j : Nat) (b : Bool), o.guard = some (j, b) → j < i := by
  intro i o hi
  unfold tameB at hB
  rw [Bool.and_eq_true, List.all_eq_true] at hB
  have h := hB.1 (o, i) (by rw [List.mem_zipIdx_iff_getElem?]; simpa using hi)
  simp only [Bool.and_eq_true] at h
  obtain ⟨⟨h1, h2⟩, h3⟩ := h
  refine ⟨fun e he hbd => ?_, fun j b hg => ?_⟩
  · rw [List.all_eq_true] at h1
    have := h1 e (Array.mem_toList_iff.2 he)
    simpa [hbd] using this
  · rw [hg] at h3
    simp only [Bool.and_eq_true, decide_eq_true_eq] at h3
    exact h3.1

theorem wp_region_tame_last2 {P : Program} {id : Nat} {Q : Exit → Act → World → Prop} {w : World} {a0 : Act} {l : List Oper} {o1 o2 : Oper} (C : World → Prop) (R : World → World → Prop) (hm : P.follows .mixedOrders = true) (n : Nat) (hn : a0.tmps.size = n)
    (hB : tameB ((l ++ [o1]) ++ [o2]) n = true) (hB1 : tameB (l ++ [o1]) n = true) (hB' : tameB l n = true) (hL : lastB ((l ++ [o1]) ++ [o2]) = true) (hL1 : lastB (l ++ [o1]) = true) (hg1 : o1.guard = none) (hg2 : o2.guard = none) (hC : C w.drew)
    (h : wpTame P C R (l.map (·.dst)) a0 (fun A W => wpList P ((l ++ [o1]) ++ [o2]).toArray Q [o1, o2] A W) l.length l []) : (Code.region id ((l ++ [o1]) ++ [o2]).toArray true).wp P Q a0 w := by
  subst hn
  obtain ⟨G, hlen, _, hfin, hops⟩ := wpTame_facts l [] h
  have hw1 : ∀ A : Act, Region.wanted o1 (yielded ((l ++ [o1]) ++ [o2]).toArray A.tmps) = true := fun A => by simp [Region.wanted, hg1]
  have hw2 : ∀ A : Act, Region.wanted o2 (yielded ((l ++ [o1]) ++ [o2]).toArray A.tmps) = true := fun A => by simp [Region.wanted, hg2]
  have hfin' : ∀ A W, C W → Same0 (l.map (·.dst)) a0 A → (∀ j, j < l.length → Fact G A.eval W j) → lastQ P o1 (lastQ P o2 Q) .normal A W := by
    intro A W c s f
    have := hfin A W c s (by simpa using f)
    simp only [wpList, hw1, hw2, if_true] at this
    rcases this with h' | ⟨h1, h2⟩
    · exact .inl (wp_lastQ' (Oper.wp_mono (fun A' W' h'' => h'') h'))
    · exact .inr ⟨h1, h2⟩
  have h1 := tame_any (Q := lastQ P o1 (lastQ P o2 Q)) (Qn := fun A W => lastQ P o1 (lastQ P o2 Q) .normal A W) (fun _ _ h => h) hB' G (by simpa using hlen) hfin' (by simpa using hops) l.length (Array.replicate l.length false) a0 w.drew (by simp)
    (Nat.le_trans (List.length_filter_le _ _) (by simp)) hC ⟨rfl, rfl, fun _ _ => rfl⟩ (by
      intro j hj
      have : (Array.replicate l.length false).getD j false = false := by
        rw [Array.getD_eq_getD_getElem?, Array.getElem?_replicate]; split <;> rfl
      rw [this] at hj
      cases hj)
  have hno : ∀ (m : Nat) (j : Nat) (o : Oper) (L : List Oper), L[j]? = some o → (Array.replicate m false).getD j false = true → ∀ e ∈ o.after, Region.binds .any e = true → (Array.replicate m false).getD e.on false = true := by
    intro m j o L ho hj
    have : (Array.replicate m false).getD j false = false := by
      rw [Array.getD_eq_getD_getElem?, Array.getElem?_replicate]; split <;> rfl
    rw [this] at hj
    cases hj
  refine wp_region_any hm ?_
  have h2 := tame_lastL (P := P) (Q := lastQ P o2 Q) (tame_back hB1) hL1 hg1 _ _ _ _ (by simp) (fun j o ho => hno _ j o l ho) h1
  rw [← Array.replicate_succ] at h2
  have h3 := tame_lastL (P := P) (Q := Q) (tame_back hB) hL hg2 _ _ _ _ (by simp) (fun j o ho => hno _ j o _ ho) h2
  rw [← Array.replicate_succ] at h3
  have e1 : ((l ++ [o1]) ++ [o2]).toArray.size = l.length + 1 + 1 := by simp
  rw [e1]
  exact h3
/-- The same, for the walk. -/
theorem wp_region_tame_cut2 {P : Program} {id : Nat} {Q : Exit → Act → World → Prop} {w : World} {a0 : Act} {l : List Oper} (C : World → Prop) (R : World → World → Prop) (hm : P.follows .mixedOrders = true) (n : Nat) (hn : a0.tmps.size = n) (o1 o2 : Oper) (ho2 : l.getLast? = some o2) (ho1 : l.dropLast.getLast? = some o1)
    (hB : tameB l n = true) (hB1 : tameB l.dropLast n = true) (hB' : tameB l.dropLast.dropLast n = true) (hL : lastB l = true) (hL1 : lastB l.dropLast = true) (hg1 : o1.guard = none) (hg2 : o2.guard = none) (hC : C w.drew)
    (h : wpTame P C R (l.dropLast.dropLast.map (·.dst)) a0 (fun A W => wpList P l.toArray Q [o1, o2] A W) l.dropLast.dropLast.length l.dropLast.dropLast []) : (Code.region id l.toArray true).wp P Q a0 w := by
  have e1 : l.dropLast.dropLast ++ [o1] = l.dropLast := by
    obtain ⟨ys, hy⟩ := List.getLast?_eq_some_iff.1 ho1
    rw [hy, List.dropLast_concat]
  have e2 : (l.dropLast.dropLast ++ [o1]) ++ [o2] = l := by
    rw [e1]
    obtain ⟨ys, hy⟩ := List.getLast?_eq_some_iff.1 ho2
    rw [hy, List.dropLast_concat]
  have := wp_region_tame_last2 (P := P) (id := id) (Q := Q) (w := w) (a0 := a0) (l := l.dropLast.dropLast) (o1 := o1) (o2 := o2) C R hm n hn (by rw [e2]; exact hB) (by rw [e1]; exact hB1) hB' (by rw [e2]; exact hL) (by rw [e1]; exact hL1) hg1 hg2 hC (by rw [e2]; exact h)
  rw [e2] at this
  exact this
end Go.Proofs.YtafdbgielmlihaaDoor
/- A region that draws its order and ends in operations that each stand behind all before them: these are walked by themselves, in the order of the text. -/
namespace Go.Proofs.YtafdbgielmlihaaDoor
open Go.RowKit Go.Shelf

def nestQ (P : Program) : List Oper → (Exit → Act → World → Prop) → (Exit → Act → World → Prop)
  | [], Q => Q
  | o :: r, Q => lastQ P o (nestQ P r Q)
theorem wp_nest {P : Program} {o : Oper} {a : Act} {w : World} {K : Act → World → Prop} : ∀ (r : List Oper) {Q : Exit → Act → World → Prop}, o.wp P a w K Q → o.wp P a w K (nestQ P r Q)
  | [], _, h => h
  | _ :: r, _, h => wp_lastQ' (wp_nest r h)
theorem lets_nest {P : Program} : ∀ (r : List Oper) {Q : Exit → Act → World → Prop}, LetsOut Q → LetsOut (nestQ P r Q)
  | [], _, h => h
  | _ :: r, _, h => lets_nest r h
theorem nest_of {P : Program} {ops : Array Oper} : ∀ (r : List Oper) {Q : Exit → Act → World → Prop} {A : Act} {W : World}, (∀ o ∈ r, o.guard = none) → wpList P ops Q r A W → nestQ P r Q .normal A W
  | [], _, _, _, _, h => h
  | o :: r, Q, A, W, hg, h => by
    have hw : Region.wanted o (yielded ops A.tmps) = true := by simp [Region.wanted, hg o (List.mem_cons_self ..)]
    simp only [wpList, hw, if_true] at h
    show lastQ P o (nestQ P r Q) .normal A W
    rcases h with h | ⟨h1, h2⟩
    · exact .inl (wp_nest r (Oper.wp_mono (fun A' W' h'' => nest_of r (fun o' ho' => hg o' (List.mem_cons_of_mem _ ho')) h'') h))
    · exact .inr ⟨h1, lets_nest r h2⟩
def cutkB (n : Nat) : List Oper → List Oper → Bool
  | _, [] => true
  | l, o :: r => (tameB (l ++ [o]) n && lastB (l ++ [o])) && (o.guard.isNone && cutkB n (l ++ [o]) r)
theorem any_nest {P : Program} {n : Nat} : ∀ (r l : List Oper) {Q : Exit → Act → World → Prop} {fuel : Nat} {A : Act} {W : World}, cutkB n l r = true → wpAny P .any l.toArray (nestQ P r Q) fuel (Array.replicate l.length false) A W →
    wpAny P .any (l ++ r).toArray Q (fuel + r.length) (Array.replicate (l.length + r.length) false) A W
  | [], l, Q, fuel, A, W, _, h => by simpa [nestQ] using h
  | o :: r, l, Q, fuel, A, W, hc, h => by
    unfold cutkB at hc
    simp only [Bool.and_eq_true, Option.isNone_iff_eq_none] at hc
    obtain ⟨⟨h1, h2⟩, h3, h4⟩ := hc
    have h5 := tame_lastL (P := P) (Q := nestQ P r Q) (tame_back h1) h2 h3 _ _ _ _ (by simp) (by
      intro j o' ho hj
      have : (Array.replicate l.length false).getD j false = false := by
        rw [Array.getD_eq_getD_getElem?, Array.getElem?_replicate]; split <;> rfl
      rw [this] at hj
      cases hj) h
    rw [← Array.replicate_succ] at h5
    have h6 := any_nest r (l ++ [o]) h4 (by simpa using h5)
    simpa [Nat.add_assoc, Nat.add_comm, Nat.add_left_comm] using h6

theorem wp_region_tame_cutk {P : Program} {id : Nat} {Q : Exit → Act → World → Prop} {w : World} {a0 : Act} {l : List Oper} (C : World → Prop) (R : World → World → Prop) (hm : P.follows .mixedOrders = true) (n : Nat) (hn : a0.tmps.size = n) (k : Nat)
    (hB' : tameB (l.take k) n = true) (hcut : cutkB n (l.take k) (l.drop k) = true) (hg : (l.drop k).all (fun o => o.guard.isNone) = true) (hC : C w.drew)
    (h : wpTame P C R ((l.take k).map (·.dst)) a0 (fun A W => wpList P l.toArray Q (l.drop k) A W) (l.take k).length (l.take k) []) : (Code.region id l.toArray true).wp P Q a0 w := by
  subst hn
  obtain ⟨G, hlen, _, hfin, hops⟩ := wpTame_facts (l.take k) [] h
  have hg' : ∀ o ∈ l.drop k, o.guard = none := fun o ho => by
    have := List.all_eq_true.1 hg o ho
    simpa using this
  have hfin' : ∀ A W, C W → Same0 ((l.take k).map (·.dst)) a0 A → (∀ j, j < (l.take k).length → Fact G A.eval W j) → nestQ P (l.drop k) Q .normal A W := by
    intro A W c s f
    exact nest_of _ hg' (hfin A W c s (by simpa using f))
  have h1 := tame_any (Q := nestQ P (l.drop k) Q) (Qn := fun A W => nestQ P (l.drop k) Q .normal A W) (fun _ _ h => h) hB' G (by simpa using hlen) hfin' (by simpa using hops) (l.take k).length (Array.replicate (l.take k).length false) a0 w.drew (by simp)
    (Nat.le_trans (List.length_filter_le _ _) (by simp)) hC ⟨rfl, rfl, fun _ _ => rfl⟩ (by
      intro j hj
      have : (Array.replicate (l.take k).length false).getD j false = false := by
        rw [Array.getD_eq_getD_getElem?, Array.getElem?_replicate]; split <;> rfl
      rw [this] at hj
      cases hj)
  refine wp_region_any hm ?_
  have h2 := any_nest (P := P) (n := a0.tmps.size) (l.drop k) (l.take k) (Q := Q) hcut h1
  rw [List.take_append_drop] at h2
  have e1 : (l.take k).length + (l.drop k).length = l.toArray.size := by rw [← List.length_append, List.take_append_drop]; simp
  rw [e1] at h2
  exact h2
end Go.Proofs.YtafdbgielmlihaaDoor
/- A region that draws its order and holds a store that others must go ahead of: what holds until then is known to them. -/
namespace Go.Proofs.YtafdbgielmlihaaDoor
open Go.RowKit Go.Shelf

/-- Operation i is the s-th, or the s-th stands behind it. -/
def early (l : List Oper) (s i : Nat) : Bool := i == s || (match l[s]? with | some os => os.after.toList.any (fun e => e.on == i && Region.binds .any e) | none => false)
/-- What a step keeps: N, too, but for the s-th. -/
def RN (R : World → World → Prop) (N : World → Prop) (b : Bool) (W W' : World) : Prop := R W W' ∧ (b = true → N W → N W')

/-- The walk, in the order of the text. -/
def wpTameN (P : Program) (C : World → Prop) (R : World → World → Prop) (N : World → Prop) (l0 : List Oper) (s : Nat) (ds : List (Option Tmp)) (a0 : Act) (Q : Act → World → Prop) (n : Nat) : List Oper → Facts → Prop
  | [], F => ∀ A W, C W → Same0 ds a0 A → (∀ j, j < n → Fact F A.eval W j) → Q A W
  | o :: rest, F => ∃ U : Value → World → Prop, (∀ v W W', C W' → R W W' → U v W → U v W') ∧
      (∀ A W, C W → (early l0 s F.length = true → N W) → Same0 ds a0 A → (∀ e ∈ o.after, Region.binds .any e = true → Fact F A.eval W e.on) → if runs F A.eval o.guard then opGives P C (RN R N (F.length != s)) o A.eval W (fun v => U (if o.dst.isSome then v else undef)) else U undef W) ∧
      wpTameN P C R N l0 s ds a0 Q n rest (F ++ [(o.dst, U)])

theorem wpTameN_facts {P : Program} {N : World → Prop} {l0 : List Oper} {s : Nat} {C : World → Prop} {R : World → World → Prop} {ds : List (Option Tmp)} {a0 : Act} {Q : Act → World → Prop} {n : Nat} : ∀ (l : List Oper) (F : Facts), wpTameN P C R N l0 s ds a0 Q n l F →
    ∃ G : Facts, G.length = F.length + l.length ∧ (∀ j, j < F.length → G[j]? = F[j]?) ∧ (∀ A W, C W → Same0 ds a0 A → (∀ j, j < n → Fact G A.eval W j) → Q A W) ∧
      ∀ i o, l[i]? = some o → ∃ U, G[F.length + i]? = some (o.dst, U) ∧ (∀ v W W', C W' → R W W' → U v W → U v W') ∧
        (∀ A W, C W → (early l0 s (F.length + i) = true → N W) → Same0 ds a0 A → (∀ e ∈ o.after, Region.binds .any e = true → Fact (G.take (F.length + i)) A.eval W e.on) → if runs (G.take (F.length + i)) A.eval o.guard then opGives P C (RN R N (F.length + i != s)) o A.eval W (fun v => U (if o.dst.isSome then v else undef)) else U undef W)
  | [], F, h => ⟨F, by simp, fun _ _ => rfl, h, fun i o hi => by simp at hi⟩
  | o :: rest, F, h => by
    obtain ⟨U, hst, hstep, hrest⟩ := h
    obtain ⟨G, hlen, hpre, hfin, hops⟩ := wpTameN_facts rest (F ++ [(o.dst, U)]) hrest
    have hF : G.take F.length = F := by
      apply List.ext_getElem?
      intro j
      rw [List.getElem?_take]
      by_cases hj : j < F.length
      · rw [if_pos hj, hpre j (by simp; omega), List.getElem?_append_left hj]
      · rw [if_neg hj, List.getElem?_eq_none (by omega)]
    refine ⟨G, by rw [hlen]; simp; omega, fun j hj => by rw [hpre j (by simp; omega), List.getElem?_append_left hj], hfin, fun i o' hi => ?_⟩
    cases i with
    | zero =>
      simp at hi; subst hi
      refine ⟨U, ?_, hst, ?_⟩
      · rw [Nat.add_zero, hpre F.length (by simp)]; simp
      · rw [Nat.add_zero, hF]; exact hstep
    | succ i =>
      obtain ⟨U', h1, h2, h3⟩ := hops i o' (by simpa using hi)
      have e : (F ++ [(o.dst, U)]).length + i = F.length + (i + 1) := by simp; omega
      rw [e] at h1 h3
      exact ⟨U', h1, h2, h3⟩


section
variable {P : Program} {C : World → Prop} {R : World → World → Prop} {a0 : Act} {l : List Oper}

theorem tame_anyN {N : World → Prop} {s : Nat} {Q : Exit → Act → World → Prop} {Qn : Act → World → Prop} (hQ : ∀ A W, Qn A W → Q .normal A W) (hB : tameB l a0.tmps.size = true) (G : Facts) (hlen : G.length = l.length)
    (hfin : ∀ A W, C W → Same0 (l.map (·.dst)) a0 A → (∀ j, j < l.length → Fact G A.eval W j) → Qn A W)
    (hops : ∀ i o, l[i]? = some o → ∃ U, G[i]? = some (o.dst, U) ∧ (∀ v W W', C W' → R W W' → U v W → U v W') ∧
        (∀ A W, C W → (early l s i = true → N W) → Same0 (l.map (·.dst)) a0 A → (∀ e ∈ o.after, Region.binds .any e = true → Fact (G.take i) A.eval W e.on) → if runs (G.take i) A.eval o.guard then opGives P C (RN R N (i != s)) o A.eval W (fun v => U (if o.dst.isSome then v else undef)) else U undef W)) :
    ∀ (fuel : Nat) (listed : Array Bool) (A : Act) (W : World), listed.size = l.length → ((List.range l.length).filter fun j => !listed.getD j true).length ≤ fuel → C W → Same0 (l.map (·.dst)) a0 A →
      (∀ j, listed.getD j false = true → Fact G A.eval W j) → (∀ (j : Nat) (o : Oper), l[j]? = some o → listed.getD j false = true → ∀ e ∈ o.after, Region.binds .any e = true → listed.getD e.on false = true) → (listed.getD s false = false → N W) → wpAny P .any l.toArray Q fuel listed A W := by
  have hB' := hB
  unfold tameB at hB'
  rw [Bool.and_eq_true, List.all_eq_true, List.all_eq_true] at hB'
  obtain ⟨hb1, hb2⟩ := hB'
  have hback : ∀ (i : Nat) (o : Oper), l[i]? = some o → (∀ e ∈ o.after, Region.binds .any e = true → e.on < i) ∧ (∀ d, o.dst = some d → d < a0.tmps.size) ∧ (∀ (j : Nat) (b : Bool), o.guard = some (j, b) → j < i ∧ ∃ e ∈ o.after, e.on = j ∧ Region.binds .any e = true) := by
    intro i o hi
    have h := hb1 (o, i) (by rw [List.mem_zipIdx_iff_getElem?]; simpa using hi)
    simp only [Bool.and_eq_true] at h
    obtain ⟨⟨h1, h2⟩, h3⟩ := h
    refine ⟨fun e he hbd => ?_, fun d hd => ?_, fun j b hg => ?_⟩
    · rw [List.all_eq_true] at h1
      have := h1 e (Array.mem_toList_iff.2 he)
      simpa [hbd] using this
    · rw [hd] at h2; simpa using h2
    · rw [hg] at h3
      simp only [Bool.and_eq_true, decide_eq_true_eq] at h3
      refine ⟨h3.1, ?_⟩
      obtain ⟨_, h3⟩ := h3
      rw [List.any_eq_true] at h3
      obtain ⟨e, he, h4⟩ := h3
      exact ⟨e, Array.mem_toList_iff.1 he, by simpa using h4⟩
  have hdist : ∀ (i j : Nat) (o p : Oper) (d : Tmp), l[i]? = some o → l[j]? = some p → o.dst = some d → i ≠ j → p.dst ≠ some d := by
    intro i j o p d hi hj hd hne
    have h := hb2 (o, i) (by rw [List.mem_zipIdx_iff_getElem?]; simpa using hi)
    simp only [hd] at h
    rw [List.all_eq_true] at h
    have := h (p, j) (by rw [List.mem_zipIdx_iff_getElem?]; simpa using hj)
    simpa [hne] using this
  have hall : ∀ (listed : Array Bool) (A : Act) (W : World), listed.size = l.length → C W → Same0 (l.map (·.dst)) a0 A → (∀ j, listed.getD j false = true → Fact G A.eval W j) → Region.ready .any l.toArray listed = [] → Q .normal A W := by
    intro listed A W hs hC hS hF hr
    refine hQ _ _ (hfin A W hC hS fun j hj => hF j ?_)
    -- the least one that is not listed would be ready
    have key : ∀ k, k < l.length → listed.getD k false = true := by
      intro k
      induction k using Nat.strongRecOn with
      | _ k ih =>
        intro hk
        cases hv : listed.getD k false with
        | true => rfl
        | false =>
          exfalso
          have hmem : k ∈ Region.ready .any l.toArray listed := by
            rw [mem_ready]
            have hkl : k < listed.size := by omega
            refine ⟨by simpa [Array.getD_eq_getD_getElem?, hkl] using hv, l[k], by simp, fun e he hb => ?_⟩
            have := (hback k _ (List.getElem?_eq_getElem hk)).1 e he hb
            exact ih e.on this (by omega)
          rw [hr] at hmem
          cases hmem
    exact key j hj
  intro fuel
  induction fuel with
  | zero =>
    intro listed A W hs hcount hC hS hF hcl hNw
    have hr : Region.ready .any l.toArray listed = [] := by
      rw [List.eq_nil_iff_forall_not_mem]
      intro k hk
      rw [mem_ready] at hk
      obtain ⟨h0, o, ho, _⟩ := hk
      have hkl : k < l.length := by simpa using (Array.getElem?_eq_some_iff.1 ho).1
      have : k ∈ (List.range l.length).filter fun j => !listed.getD j true := by simp [hkl]; simpa using h0
      have := List.length_pos_of_mem this
      omega
    exact ⟨hr, hall listed A W hs hC hS hF hr⟩
  | succ fuel ih =>
    intro listed A W hs hcount hC hS hF hcl hNw
    refine ⟨hall listed A W hs hC hS hF, fun i hi => ?_⟩
    rw [mem_ready] at hi
    obtain ⟨h0, o, ho, hdeps⟩ := hi
    have hil : i < l.length := by simpa using (Array.getElem?_eq_some_iff.1 ho).1
    have hlo : l[i]? = some o := by simpa using ho
    obtain ⟨U, hU, hst, hstep⟩ := hops i o hlo
    obtain ⟨hb, hdb, hgb⟩ := hback i o hlo
    have htake : ∀ j, j < i → Fact (G.take i) A.eval W j = Fact G A.eval W j := fun j hj => by
      unfold Fact; rw [List.getElem?_take, if_pos hj]
    have hearly : early l s i = true → N W := fun he => hNw (by
      cases hv : listed.getD s false with
      | false => rfl
      | true =>
        exfalso
        unfold early at he
        rw [Bool.or_eq_true] at he
        have hif : listed.getD i false = false := by
          have hkl : i < listed.size := by omega
          simpa [Array.getD_eq_getD_getElem?, hkl] using h0
        rcases he with he | he
        · rw [show i = s by simpa using he, hv] at hif
          cases hif
        · cases hos : l[s]? with
          | none => rw [hos] at he; simp at he
          | some os =>
            rw [hos] at he
            simp only [List.any_eq_true, Bool.and_eq_true, beq_iff_eq] at he
            obtain ⟨e, hm, h1, h2⟩ := he
            have := hcl s os hos hv e (Array.mem_toList_iff.1 hm) h2
            rw [h1, hif] at this
            cases this)
    have hstep' := hstep A W hC hearly hS (fun e he hbd => by rw [htake e.on (hb e he hbd)]; exact hF e.on (hdeps e he hbd))
    have hrun : Region.wanted o (yielded l.toArray A.tmps) = runs (G.take i) A.eval o.guard := by
      unfold Region.wanted runs
      cases hg : o.guard with
      | none => rfl
      | some jb =>
        obtain ⟨j, b⟩ := jb
        obtain ⟨hj, _⟩ := hgb j b hg
        have hjl : j < l.length := by omega
        obtain ⟨Uj, hUj, _⟩ := hops j l[j] (List.getElem?_eq_getElem hjl)
        simp only [List.getElem?_take, if_pos hj, hUj]
        cases hd : (l[j]).dst with
        | none =>
          simp only [yielded]
          simp [List.getElem?_eq_getElem hjl, hd]
        | some d => exact yielded_isB (by simp) hd b
    -- what stands behind the operation
    have hnext : ∀ (v : Value) (W' : World), C W' → (∀ j d V, G[j]? = some (d, V) → listed.getD j false = true → ∀ u, V u W → V u W') → (i ≠ s → N W → N W') → U (if o.dst.isSome then v else undef) W' →
        wpAny P .any l.toArray Q fuel (listed.setIfInBounds i true) (A.put o.dst v) W' := by
      intro v W' hC' hkeep hNk hUv
      refine ih _ _ _ (by simpa using hs) ?_ hC' (same0_put hS (by rw [List.mem_map]; exact ⟨o, List.mem_of_getElem? hlo, rfl⟩) v) ?_ ?_ ?_
      · have hsub : ((List.range l.length).filter fun j => !(listed.setIfInBounds i true).getD j true).length < ((List.range l.length).filter fun j => !listed.getD j true).length := by
          have h1 : (List.range l.length).filter (fun j => !(listed.setIfInBounds i true).getD j true) = ((List.range l.length).filter fun j => !listed.getD j true).filter (fun j => j != i) := by
            rw [List.filter_filter]
            refine List.filter_congr fun j hj => ?_
            by_cases hji : j = i
            · subst hji
              simp [Array.getD_eq_getD_getElem?, show j < listed.size by omega]
            · rw [getD_set_ne true (Ne.symm hji)]; simp [hji]
          rw [h1]
          have hmem : i ∈ (List.range l.length).filter fun j => !listed.getD j true := by simp [hil]; simpa using h0
          refine Nat.lt_of_le_of_ne (List.length_filter_le _ _) fun he => ?_
          have := (List.length_filter_eq_length_iff.1 he) i hmem
          simp at this
        omega
      · intro j hj
        by_cases hji : j = i
        · subst hji
          unfold Fact
          rw [hU]
          cases hd : o.dst with
          | none => simpa [hd, atD] using hUv
          | some d =>
            have hsz : d < A.tmps.size := by rw [hS.2.1]; exact hdb d hd
            simp only [atD, eval_put_self hsz]
            simpa [hd] using hUv
        · rw [getD_set_ne false (Ne.symm hji)] at hj
          have hFj := hF j hj
          unfold Fact at hFj ⊢
          cases hGj : G[j]? with
          | none => trivial
          | some dV =>
            obtain ⟨d, V⟩ := dV
            rw [hGj] at hFj
            have hval : atD (A.put o.dst v).eval d = atD A.eval d := by
              cases d with
              | none => rfl
              | some d =>
                cases hdo : o.dst with
                | none => rfl
                | some d' =>
                  simp only [atD]
                  refine eval_put_ne fun he => ?_
                  have hjl : j < l.length := by rw [← hlen]; exact (List.getElem?_eq_some_iff.1 hGj).1
                  obtain ⟨Uj, hUj, _⟩ := hops j l[j] (List.getElem?_eq_getElem hjl)
                  rw [hGj] at hUj
                  injection hUj with hUj
                  have hdj : (l[j]).dst = some d := (Prod.mk.inj hUj).1.symm
                  exact hdist i j o _ d' hlo (List.getElem?_eq_getElem hjl) hdo (Ne.symm hji) (by rw [hdj, he])
            show V (atD (A.put o.dst v).eval d) W'
            rw [hval]
            exact hkeep j d V hGj hj _ hFj
      · intro j oj hoj hj e he hbd
        by_cases hji : j = i
        · subst hji
          rw [hlo] at hoj
          injection hoj with hoj
          subst hoj
          exact getD_set_true (hdeps e he hbd)
        · rw [getD_set_ne false (Ne.symm hji)] at hj
          exact getD_set_true (hcl j oj hoj hj e he hbd)
      · intro hsf
        have hsi : i ≠ s := by
          intro he
          subst he
          have hkl : i < listed.size := by omega
          simp [Array.getD_eq_getD_getElem?, hkl] at hsf
        rw [getD_set_ne false hsi] at hsf
        exact hNk hsi (hNw hsf)
    have hstab : ∀ W', C W' → R W W' → ∀ j d V, G[j]? = some (d, V) → listed.getD j false = true → ∀ u, V u W → V u W' := by
      intro W' hC' hR j d V hGj hj u hu
      have hjl : j < l.length := by rw [← hlen]; exact (List.getElem?_eq_some_iff.1 hGj).1
      obtain ⟨Uj, hUj, hstj, _⟩ := hops j l[j] (List.getElem?_eq_getElem hjl)
      rw [hGj] at hUj
      injection hUj with hUj
      have hV : V = Uj := (Prod.mk.inj hUj).2
      subst hV
      exact hstj u W W' hC' hR hu
    unfold wpOp
    simp only [ho]
    rw [hrun]
    cases hw : runs (G.take i) A.eval o.guard with
    | false =>
      rw [hw] at hstep'
      simp only [Bool.false_eq_true, if_false] at hstep' ⊢
      exact hnext undef W hC (fun _ _ _ _ _ _ h => h) (fun _ h => h) (by cases hds : o.dst.isSome <;> simpa using hstep')
    | true =>
      rw [hw] at hstep'
      simp only [if_true] at hstep' ⊢
      left
      unfold Oper.wp
      unfold opGives opPost at hstep'
      generalize (execOp A.eval o).run P W = r at hstep'
      cases r with
      | halt x w' => exact hstep'.elim
      | ok nx w' =>
        cases nx with
        | value v => obtain ⟨⟨h1, h2, h4⟩, h3⟩ := hstep'; exact hnext v w' h1 (hstab w' h1 h2) (fun hne => h4 (by simpa using hne)) h3
        | skip => obtain ⟨⟨h1, h2, h4⟩, h3⟩ := hstep'; exact hnext undef w' h1 (hstab w' h1 h2) (fun hne => h4 (by simpa using hne)) (by cases hds : o.dst.isSome <;> simpa [hds] using h3)
        | enter f args =>
          refine Calls.mono (R' := _) hstep' ?_
          rintro e w'' ⟨v, rfl, ⟨h1, h2, h4⟩, h3⟩
          exact hnext v w'' h1 (hstab w'' h1 h2) (fun hne => h4 (by simpa using hne)) h3
        | _ => exact hstep'.elim


theorem wp_region_tameN_cut {id : Nat} {Q : Exit → Act → World → Prop} {w : World} (C : World → Prop) (R : World → World → Prop) (N : World → Prop) (s : Nat) (hm : P.follows .mixedOrders = true) (n : Nat) (hn : a0.tmps.size = n) (oL : Oper) (ho : l.getLast? = some oL)
    (hB : tameB l n = true) (hB' : tameB l.dropLast n = true) (hL : lastB l = true) (hgL : oL.guard = none) (hC : C w.drew) (hN : N w.drew)
    (h : wpTameN P C R N l.dropLast s (l.dropLast.map (·.dst)) a0 (fun A W => wpList P l.toArray Q [oL] A W) l.dropLast.length l.dropLast []) : (Code.region id l.toArray true).wp P Q a0 w := by
  subst hn
  have e : l.dropLast ++ [oL] = l := by
    obtain ⟨ys, rfl⟩ := List.getLast?_eq_some_iff.1 ho
    rw [List.dropLast_concat]
  obtain ⟨G, hlen, _, hfin, hops⟩ := wpTameN_facts l.dropLast [] h
  have hw : ∀ A : Act, Region.wanted oL (yielded l.toArray A.tmps) = true := fun A => by simp [Region.wanted, hgL]
  have hno : ∀ (m j : Nat), (Array.replicate m false).getD j false = false := fun m j => by
    rw [Array.getD_eq_getD_getElem?, Array.getElem?_replicate]; split <;> rfl
  have h1 := tame_anyN (N := N) (s := s) (Q := lastQ P oL Q) (Qn := fun A W => lastQ P oL Q .normal A W) (fun _ _ h => h) hB' G (by simpa using hlen) (fun A W c s f => by
      have := hfin A W c s (by simpa using f)
      simp only [wpList, hw, if_true] at this
      exact this) (by simpa using hops) l.dropLast.length (Array.replicate l.dropLast.length false) a0 w.drew (by simp)
    (Nat.le_trans (List.length_filter_le _ _) (by simp)) hC ⟨rfl, rfl, fun _ _ => rfl⟩ (by intro j hj; rw [hno] at hj; cases hj) (by intro j o _ hj; rw [hno] at hj; cases hj) (fun _ => hN)
  refine wp_region_any hm ?_
  have h2 := tame_lastL (P := P) (Q := Q) (l := l.dropLast) (oL := oL) (tame_back (by rw [e]; exact hB)) (by rw [e]; exact hL) hgL _ _ _ _ (by simp) (by intro j o _ hj; rw [hno] at hj; cases hj) h1
  rw [← Array.replicate_succ, e] at h2
  have e1 : l.toArray.size = l.dropLast.length + 1 := by
    have := congrArg List.length e
    simp only [List.length_append, List.length_singleton] at this
    simp only [List.size_toArray]
    omega
  rw [e1]
  exact h2

variable {N : World → Prop} {l0 : List Oper} {s : Nat} {ds : List (Option Tmp)} {Q : Act → World → Prop} {n : Nat} {o : Oper} {rest : List Oper} {F : Facts}
theorem tameN_n (U : Value → World → Prop) (hst : ∀ v W W', C W' → R W W' → U v W → U v W')
    (hstep : ∀ ρ W, C W → (early l0 s F.length = true → N W) → Rd a0 ds ρ → (∀ e ∈ o.after, Region.binds .any e = true → Fact F ρ W e.on) → if runs F ρ o.guard then opGives P C (RN R N (F.length != s)) o ρ W (fun v => U (if o.dst.isSome then v else undef)) else U undef W)
    (h : wpTameN P C R N l0 s ds a0 Q n rest (F ++ [(o.dst, U)])) : wpTameN P C R N l0 s ds a0 Q n (o :: rest) F :=
  ⟨U, hst, fun A W hC hN hS hD => hstep A.eval W hC hN (Rd.of hS) hD, h⟩
theorem tameN_v {d : Tmp} (hd : o.dst = some d) (U : Value → World → Prop) (hst : ∀ v W W', C W' → R W W' → U v W → U v W')
    (hstep : ∀ ρ W, C W → (early l0 s F.length = true → N W) → Rd a0 ds ρ → (∀ e ∈ o.after, Region.binds .any e = true → Fact F ρ W e.on) → if runs F ρ o.guard then opGives P C (RN R N (F.length != s)) o ρ W U else U undef W)
    (h : wpTameN P C R N l0 s ds a0 Q n rest (F ++ [(some d, U)])) : wpTameN P C R N l0 s ds a0 Q n (o :: rest) F := by
  refine tameN_n U hst ?_ (hd ▸ h)
  intro ρ W hC hN hr hD
  have := hstep ρ W hC hN hr hD
  rw [hd]
  exact this
theorem tameN_q {d : Tmp} (hd : o.dst = some d) (v0 : Value)
    (hstep : ∀ ρ W, C W → (early l0 s F.length = true → N W) → Rd a0 ds ρ → (∀ e ∈ o.after, Region.binds .any e = true → Fact F ρ W e.on) → if runs F ρ o.guard then opGives P C (RN R N (F.length != s)) o ρ W (fun v _ => Is v0 v) else Is v0 undef)
    (h : wpTameN P C R N l0 s ds a0 Q n rest (F ++ [(some d, fun v _ => v = v0)])) : wpTameN P C R N l0 s ds a0 Q n (o :: rest) F := by
  refine tameN_v hd (fun v _ => Is v0 v) (fun _ _ _ _ _ h => h) ?_ h
  intro ρ W hC hN hr hD
  exact hstep ρ W hC hN hr hD
theorem tameN_end (m : Nat) (hm : a0.tmps.size = m) (hn : n = F.length) (h : ∀ ρ W, C W → Rd a0 ds ρ → allF F ρ W → Q { tmps := (evs ρ 0 m).toArray, defers := a0.defers } W) : wpTameN P C R N l0 s ds a0 Q n [] F :=
  tame_end (P := P) (R := R) m hm hn h
end
end Go.Proofs.YtafdbgielmlihaaDoor
/- The reference's rings, in plain words: what one round gives. -/
namespace Go.Proofs.YtafdbgielmlihaaDoor
open Go.RowKit Go.Shelf

/-- The passes of the reference. -/
def roundS (A : List Arc) : Nat → BF × Option Nat
  | 0 => (init0 fun _ => true, none)
  | k + 1 => A.foldl relaxL ((roundS A k).1, none)
theorem roundS_fst (A : List Arc) : ∀ k, (roundS A k).1 = passes A k (init0 fun _ => true)
  | 0 => rfl
  | k + 1 => by
    rw [roundS, foldL_fst]
    show pass A (roundS A k).1 = pass A (passes A k _)
    rw [roundS_fst A k]
/-- No ring is left. -/
theorem round_none {S : List Sal} {n : Nat} {m : List Int} (hF : Feas S m) (hn : ∀ v, net S m v = net S (caps S) v) (h : (roundS (resArcs 0 S m) (n + 1)).2 = none) : Opt S (caps S) m := by
  have h0 : ((resArcs 0 S m).foldl relaxL ((roundS (resArcs 0 S m) n).1, none)).2 = none := h
  obtain ⟨-, -, h1⟩ := foldL_no _ _ _ h0
  refine ring_end (n := n) hF hn fun a ha x hx => ?_
  have h2 := h1 a ha
  rw [roundS_fst] at h2
  unfold betters at h2
  have hx' : (passes (resArcs 0 S m) n (init0 fun _ => true)).d a.src = some x := hx
  rw [hx'] at h2
  exact h2
/-- A ring is left, and is gone round. -/
theorem round_some {S : List Sal} {n : Nat} (hS : ∀ x ∈ S, x.s < n ∧ x.b < n) {m : List Int} (hF : Feas S m) {v : Nat} (h : (roundS (resArcs 0 S m) (n + 1)).2 = some v) :
    v < n ∧ (∀ j x, backK (roundS (resArcs 0 S m) (n + 1)).1.p j v = some x → x < n) ∧ ∃ u t, backK (roundS (resArcs 0 S m) (n + 1)).1.p n v = some u ∧ 0 < t ∧ t ≤ n ∧ backK (roundS (resArcs 0 S m) (n + 1)).1.p t u = some u ∧ (∀ j, 0 < j → j < t → backK (roundS (resArcs 0 S m) (n + 1)).1.p j u ≠ some u) ∧
      Feas S (walked m (chainArcs (roundS (resArcs 0 S m) (n + 1)).1.p t u)) ∧ (∀ v, net S (walked m (chainArcs (roundS (resArcs 0 S m) (n + 1)).1.p t u)) v = net S m v) ∧ cost S (walked m (chainArcs (roundS (resArcs 0 S m) (n + 1)).1.p t u)) < cost S m := by
  have hlt := res_lt hS m
  have h0 : ((resArcs 0 S m).foldl relaxL ((roundS (resArcs 0 S m) n).1, none)).2 = some v := h
  rcases foldL_yes _ _ _ _ h0 with h1 | ⟨⟨a, ha, hav⟩, y, hy, hl⟩
  · cases h1
  · have e1 : (roundS (resArcs 0 S m) (n + 1)).1 = bf1 S n m := roundS_fst _ _
    have e0 : (roundS (resArcs 0 S m) n).1 = bf0 S n m := roundS_fst _ _
    have hy' : (bf1 S n m).d v = some y := by rw [← e1]; exact hy
    rw [e0] at hl
    rw [e1]
    have hv : v < n := by rw [← hav]; exact (hlt a ha).2
    have hI : Inv (resArcs 0 S m) (fun _ => true) (bf1 S n m) := Inv.passes _ _ _
    obtain ⟨u, _, _, hu, _⟩ := ring_of (fun a ha => (hlt a ha).1) hI hv hy' hl
    obtain ⟨t, g1, g2, g3, g4, _, g5, g6, g7⟩ := ring_step hS hF hv hy' hl hu
    exact ⟨hv, fun j x hx => back_lt (fun a ha => (hlt a ha).1) hI j v x hv hx, u, t, hu, g1, g2, g3, g4, g5, g6, g7⟩
theorem back_more {p : Nat → Option Arc} {j k v x u : Nat} (h : backK p j v = some x) (hk : backK p k v = some u) (hjk : j < k) : ∃ a, p x = some a := by
  cases hp : p x with
  | some a => exact ⟨a, rfl⟩
  | none =>
    obtain ⟨e, _⟩ := back_end h hp hk (by omega)
    omega
theorem back_pre {p : Nat → Option Arc} {n v u j x : Nat} (hb : backK p n v = some u) (hx : backK p j u = some x) : backK p (n + j) v = some x := by
  rw [back_add, hb]; exact hx
/-! One list more. -/
theorem plus_bump : ∀ (m z : List Int) (i : Nat) (δ : Int), m.length = z.length → List.zipWith (· + ·) m (bump z i δ) = bump (List.zipWith (· + ·) m z) i δ := by
  intro m z i δ h
  apply List.ext_getElem?
  intro k
  rw [bump_get, List.getElem?_zipWith, bump_get, List.getElem?_zipWith]
  cases m[k]? <;> cases z[k]? <;> simp
  split <;> omega
theorem plus_step (m z : List Int) (a : Arc) (h : m.length = z.length) : List.zipWith (· + ·) m (stepM z a) = stepM (List.zipWith (· + ·) m z) a := by
  unfold stepM
  split <;> exact plus_bump m z _ _ h
theorem stepM_len (z : List Int) (a : Arc) : (stepM z a).length = z.length := by
  unfold stepM
  split <;> exact bump_len _ _ _
theorem walked_len' : ∀ (L : List Arc) (z : List Int), (walked z L).length = z.length
  | [], _ => rfl
  | a :: L, z => by
    show (walked (stepM z a) L).length = _
    rw [walked_len' L, stepM_len]
theorem plus_walked : ∀ (L : List Arc) (m z : List Int), m.length = z.length → List.zipWith (· + ·) m (walked z L) = walked (List.zipWith (· + ·) m z) L
  | [], _, _, _ => rfl
  | a :: L, m, z, h => by
    show List.zipWith (· + ·) m (walked (stepM z a) L) = walked (stepM _ a) L
    rw [plus_walked L m _ (by rw [stepM_len]; exact h), plus_step m z a h]
theorem plus_zero : ∀ (m : List Int), List.zipWith (· + ·) m (List.replicate m.length 0) = m
  | [] => rfl
  | x :: m => by
    rw [List.length_cons, List.replicate_succ, List.zipWith_cons_cons, plus_zero m, Int.add_zero]
/-- **A round's ring, put on what is given.** -/
theorem plus_ring (m : List Int) (L : List Arc) : List.zipWith (· + ·) m (walked (List.replicate m.length 0) L) = walked m L := by
  rw [plus_walked L m _ (by simp), plus_zero]
/-- So much of it. -/
def addTo (m z : List Int) (k : Nat) : List Int := List.zipWith (· + ·) (m.take k) (z.take k) ++ m.drop k
theorem addTo_zero (m z : List Int) : addTo m z 0 = m := by simp [addTo]
theorem addTo_all {m z : List Int} {k : Nat} (h : m.length ≤ k) (hz : z.length ≤ k) : addTo m z k = List.zipWith (· + ·) m z := by
  unfold addTo
  rw [List.take_of_length_le h, List.take_of_length_le hz, List.drop_eq_nil_of_le h, List.append_nil]
theorem addTo_len {m z : List Int} (h : m.length = z.length) (k : Nat) : (addTo m z k).length = m.length := by
  unfold addTo
  simp [h]
  omega
theorem addTo_get {m z : List Int} {k : Nat} {x : Int} (h : m.length = z.length) (hx : m[k]? = some x) : (addTo m z k)[k]? = some x := by
  have hk : k < m.length := (List.getElem?_eq_some_iff.1 hx).1
  unfold addTo
  rw [List.getElem?_append_right (by simp; omega)]
  simp only [List.length_zipWith, List.length_take, List.getElem?_drop]
  rw [show k + (k - min (min k m.length) (min k z.length)) = k by omega]
  exact hx
theorem addTo_succ {m z : List Int} {k : Nat} {x y : Int} (h : m.length = z.length) (hx : m[k]? = some x) (hy : z[k]? = some y) : addTo m z (k + 1) = (addTo m z k).set k (x + y) := by
  have hk : k < m.length := (List.getElem?_eq_some_iff.1 hx).1
  apply List.ext_getElem?
  intro i
  rw [List.getElem?_set]
  by_cases e : k = i
  · subst e
    rw [if_pos rfl, if_pos (by rw [addTo_len h]; exact hk)]
    unfold addTo
    rw [List.getElem?_append_left (by simp; omega), List.getElem?_zipWith, List.getElem?_take, List.getElem?_take, if_pos (by omega), if_pos (by omega), hx, hy]
  · rw [if_neg e]
    unfold addTo
    by_cases hi : i < k
    · rw [List.getElem?_append_left (by simp; omega), List.getElem?_append_left (by simp; omega), List.getElem?_zipWith, List.getElem?_zipWith, List.getElem?_take, List.getElem?_take, List.getElem?_take, List.getElem?_take, if_pos (by omega), if_pos (by omega), if_pos hi, if_pos hi]
    · rw [List.getElem?_append_right (by simp; omega), List.getElem?_append_right (by simp; omega)]
      simp only [List.length_zipWith, List.length_take, List.getElem?_drop]
      congr 1
      omega
end Go.Proofs.YtafdbgielmlihaaDoor
/- What holds between two bales of market.closed: no program in sight. -/
namespace Go.Proofs.YtafdbgielmlihaaDoor
open Go.RowKit Go.Shelf

def leftL (c : Chn) (f : Nat → Int) (M : List Int) : List Int := (List.range c.houses.length).map fun v => leftI (salsAt c f) (balesOf c) M v
structure Inv0 (c : Chn) (f : Nat → Int) (M left : List Int) : Prop where
  F : Feas (salsAt c f) M
  p : ∃ π, Pot (resArcs 0 (salsAt c f) M) π
  l : left = leftL c f M
theorem leftL_len (c : Chn) (f : Nat → Int) (M : List Int) : (leftL c f M).length = c.houses.length := by simp [leftL]
theorem leftL_get {c : Chn} {f : Nat → Int} {M : List Int} {v : Nat} (h : v < c.houses.length) : (leftL c f M)[v]? = some (leftI (salsAt c f) (balesOf c) M v) := by simp [leftL, h]
theorem net_zero (v : Nat) : ∀ (S : List Sal) (k : Nat), net S (List.replicate k 0) v = 0
  | [], _ => by simp [net]
  | _ :: _, 0 => by simp [net]
  | x :: S, k + 1 => by rw [List.replicate_succ, net, net_zero v S k]; simp
theorem net_at (c : Chn) (f : Nat → Int) (M : List Int) (v : Nat) : net (salsAt c f) M v = net (salsOf c) M v := costed_net f v _ 0 M
theorem feas_zero : ∀ (S : List Sal), (∀ x ∈ S, 0 ≤ x.cap) → Feas S (List.replicate S.length 0)
  | [], _ => trivial
  | x :: S, h => ⟨⟨Int.le_refl _, h x (by simp)⟩, feas_zero S fun y hy => h y (by simp [hy])⟩
theorem res_zero : ∀ (S : List Sal) (i k : Nat), (∀ x ∈ S, 0 ≤ x.c) → ∀ a ∈ resArcs i S (List.replicate k 0), 0 ≤ a.w
  | [], _, _, _, a, h => by simp [resArcs] at h
  | _ :: _, _, 0, _, a, h => by simp [resArcs] at h
  | x :: S, i, k + 1, hc, a, h => by
    rw [List.replicate_succ] at h
    unfold resArcs at h
    rw [List.mem_append, List.mem_append] at h
    rcases h with h | h | h
    · split at h
      · simp only [List.mem_singleton] at h; subst h; exact hc x (by simp)
      · cases h
    · rw [if_neg (by omega)] at h; cases h
    · exact res_zero S (i + 1) k (fun y hy => hc y (by simp [hy])) a h
theorem costed_c (f : Nat → Int) (hf : ∀ i, 0 ≤ f i) (S : List Sal) (i : Nat) : ∀ x ∈ costed f i S, 0 ≤ x.c := by
  intro x hx
  obtain ⟨k, hk⟩ := List.getElem?_of_mem hx
  rw [costed_get] at hk
  obtain ⟨y, _, rfl⟩ := Option.map_eq_some_iff.1 hk
  exact hf _
theorem inv_start {c : Chn} (hR : Right c) {f : Nat → Int} (hf : ∀ i, 0 ≤ f i) : Inv0 c f (List.replicate c.sales.length 0) ((List.range c.houses.length).map fun v => net (salsOf c) (balesOf c) v) := by
  refine ⟨by have := feas_zero (salsAt c f) fun x hx => (at_cap hR f x hx).1; rwa [at_len] at this, ⟨fun _ => 0, fun a ha => ?_⟩, ?_⟩
  · have := res_zero (salsAt c f) 0 c.sales.length (costed_c f hf _ _) a ha
    show (0 : Int) ≤ 0 + a.w
    omega
  · unfold leftL leftI
    congr 1
    funext v
    rw [net_zero, net_at]
    omega
def absS (l : List Int) : Nat := (l.map Int.natAbs).sum
theorem absS_set : ∀ (l : List Int) (i : Nat) (x y : Int), l[i]? = some y → absS (l.set i x) + y.natAbs = absS l + x.natAbs
  | z :: l, 0, x, y, h => by
    simp at h; subst h
    simp only [absS, List.set_cons_zero, List.map_cons, List.sum_cons]; omega
  | z :: l, i + 1, x, y, h => by
    have ih := absS_set l i x y (by simpa using h)
    simp only [absS, List.set_cons_succ, List.map_cons, List.sum_cons] at ih ⊢
    omega
  | [], _, _, _, h => by simp at h
/-- What the passes know is known of the houses. -/
theorem inv_corr {c : Chn} (hR : Right c) {f : Nat → Int} {C : List (List Int)} (hC : Costs f C) (hCl : C.length = c.sales.length) (hs : c.sales.length ≤ 11) {M left : List Int} (h : Inv0 c f M left) :
    Corr f c.houses.length (passesR C (stepsL c M) c.houses.length (initR left)) (bfOf (salsAt c f) c.houses.length (balesOf c) M) := by
  have h0 := initR_corr f left (oweS (salsAt c f) (balesOf c) M) fun v y hy => by
    have hv : v < c.houses.length := by have := (List.getElem?_eq_some_iff.1 hy).1; rw [h.l, leftL_len] at this; exact this
    rw [h.l, leftL_get hv] at hy
    injection hy with hy
    unfold oweS
    rw [hy]
  have hll : left.length = c.houses.length := by rw [h.l, leftL_len]
  rw [hll] at h0
  have hsc := steps_count c c.sales M 0
  have h6 := hR.h6
  have hb : c.houses.length * (stepsL c M).length ≤ 400 := by
    have h1 : c.houses.length * (stepsL c M).length ≤ 6 * 22 := Nat.mul_le_mul h6 (by unfold stepsL; omega)
    omega
  have h1 := passesR_corr hC rfl hCl (L := stepsL c M) (fun s hs => stepsL_ok hR hs) (initR_small left) h0 c.houses.length hb
  rw [stepsL_arcs] at h1
  exact h1
/-- **One bale more.** -/
theorem inv_step {c : Chn} (hR : Right c) {f : Nat → Int} {M left : List Int} (h : Inv0 c f M left) {t : Nat} {y : Int} (hy : left[t]? = some y) (hy0 : 0 < y) {d : Int} (hd : (bfOf (salsAt c f) c.houses.length (balesOf c) M).d t = some d) :
    ∃ k r z, k < c.houses.length ∧ r < c.houses.length ∧ backK (bfOf (salsAt c f) c.houses.length (balesOf c) M).p k t = some r ∧ (bfOf (salsAt c f) c.houses.length (balesOf c) M).p r = none ∧ t ≠ r ∧ left[r]? = some z ∧ z < 0 ∧
      Inv0 c f (walked M (chainArcs (bfOf (salsAt c f) c.houses.length (balesOf c) M).p k t)) ((left.set t (y - 1)).set r (z + 1)) ∧ absS ((left.set t (y - 1)).set r (z + 1)) < absS left := by
  have htl : t < c.houses.length := by have := (List.getElem?_eq_some_iff.1 hy).1; rw [h.l, leftL_len] at this; exact this
  obtain ⟨π, hπ⟩ := h.p
  obtain ⟨k, r, hk, hb, hr, -, hF, hnet, ho, hπ'⟩ := path_step (at_mem hR f) (full := balesOf c) h.F hπ htl
  have hro := ho ⟨d, hd⟩
  have hrl : r < c.houses.length := by
    refine back_lt (A := resArcs 0 (salsAt c f) M) (S := oweS (salsAt c f) (balesOf c) M) (fun a ha => (res_lt (at_mem hR f) M a ha).1) (Inv.passes _ _ _) k t r htl hb
  have hyl : y = leftI (salsAt c f) (balesOf c) M t := by
    rw [h.l, leftL_get htl] at hy
    injection hy with hy
    exact hy.symm
  have hz : left[r]? = some (leftI (salsAt c f) (balesOf c) M r) := by rw [h.l, leftL_get hrl]
  unfold oweS at hro
  simp only [decide_eq_true_eq] at hro
  have hne : t ≠ r := by rintro rfl; omega
  refine ⟨k, r, _, hk, hrl, hb, hr, hne, hz, hro, ⟨hF, hπ', ?_⟩, ?_⟩
  · apply List.ext_getElem?
    intro v
    by_cases hv : v < c.houses.length
    · have hvl : left[v]? = some (leftI (salsAt c f) (balesOf c) M v) := by rw [h.l, leftL_get hv]
      have hll : left.length = c.houses.length := by rw [h.l, leftL_len]
      have hnv := hnet v
      rw [leftL_get hv, List.getElem?_set, List.getElem?_set]
      have e : leftI (salsAt c f) (balesOf c) (walked M (chainArcs (bfOf (salsAt c f) c.houses.length (balesOf c) M).p k t)) v = leftI (salsAt c f) (balesOf c) M v - (one (t = v) - one (r = v)) := by
        unfold leftI; omega
      rw [e]
      by_cases e1 : r = v
      · subst e1
        rw [if_pos rfl, if_pos (by simp; omega)]
        unfold one
        rw [if_neg hne, if_pos rfl]
        exact congrArg some (by omega)
      · rw [if_neg e1]
        by_cases e2 : t = v
        · subst e2
          rw [if_pos rfl, if_pos (by omega)]
          unfold one
          rw [if_pos rfl, if_neg e1, hyl]
          exact congrArg some (by omega)
        · rw [if_neg e2, hvl]
          unfold one
          rw [if_neg e2, if_neg e1]
          exact congrArg some (by omega)
    · have hll : left.length = c.houses.length := by rw [h.l, leftL_len]
      rw [List.getElem?_eq_none (by simp; omega), List.getElem?_eq_none (by rw [leftL_len]; omega)]
  · have a1 := absS_set left t (y - 1) y hy
    have a2 := absS_set (left.set t (y - 1)) r (leftI (salsAt c f) (balesOf c) M r + 1) (leftI (salsAt c f) (balesOf c) M r) (by rw [List.getElem?_set, if_neg hne]; exact hz)
    omega
/-- **No bale more.** -/
theorem inv_end {c : Chn} (hR : Right c) {f : Nat → Int} {M left : List Int} (h : Inv0 c f M left) (hno : ∀ (t : Nat) (y : Int), left[t]? = some y → 0 < y → (bfOf (salsAt c f) c.houses.length (balesOf c) M).d t = none) : Opt (salsAt c f) (balesOf c) M := by
  obtain ⟨π, hπ⟩ := h.p
  have h1 := path_end (at_mem hR f) h.F hπ (by
    rw [at_caps]
    intro t ht h0
    exact hno t _ (by rw [h.l, leftL_get ht]) h0)
  rwa [at_caps] at h1
end Go.Proofs.YtafdbgielmlihaaDoor
