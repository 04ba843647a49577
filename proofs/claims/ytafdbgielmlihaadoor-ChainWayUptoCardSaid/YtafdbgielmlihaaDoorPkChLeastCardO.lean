/- What closes a chain; the numbers that prove the closing rise along what moves (plain). -/
import Derived.Test.YtafdbgielmlihaaDoorPkChLeastCardN
namespace Go.Proofs.YtafdbgielmlihaaDoor
open Go.RowKit Go.Shelf
set_option linter.unusedSimpArgs false

/-- Numbers that close the chain: as many as there are sales, none below 0 or above what was sold, and each house gets what it is owed. -/
structure Closes (c : Chn) (m : List Int) : Prop where
  len : m.length = c.sales.length
  bd : ∀ (i : Nat) (x : Sale) (y : Int), c.sales[i]? = some x → m[i]? = some y → 0 ≤ y ∧ y ≤ x.bales
  gets : ∀ v, net (salsOf c) m v = net (salsOf c) (balesOf c) v
theorem sals_get {c : Chn} {i : Nat} {x : Sale} (h : c.sales[i]? = some x) : (salsOf c)[i]? = some (salOf c x) := by
  unfold salsOf; rw [List.getElem?_map, h]; rfl
theorem closes_feas {c : Chn} {m : List Int} (h : Closes c m) : Feas (salsOf c) m :=
  feas_of (by rw [h.len, sals_len]) fun i x y hx hy => by
    unfold salsOf at hx
    rw [List.getElem?_map] at hx
    obtain ⟨z, hz, rfl⟩ := Option.map_eq_some_iff.1 hx
    exact h.bd i z y hz hy
theorem closes_opt {c : Chn} {f : Nat → Int} {l : List Int} (h : Opt (salsAt c f) (balesOf c) l) : Closes c l := by
  obtain ⟨h1, h2, -⟩ := h
  have hF := (costed_feas _ _ _ _).1 h1
  refine ⟨by rw [feas_len hF, sals_len], fun i x y hx hy => ?_, fun v => ?_⟩
  · exact feas_get hF i _ y (sals_get hx) hy
  · have := h2 v
    unfold salsAt at this
    rwa [costed_net, costed_net] at this
theorem closes_close {c : Chn} {l : List Int} (h : IsClose c l) : Closes c l := closes_opt h
theorem closes_gets {c : Chn} {m : List Int} (h : Closes c m) : getsL c m = getsL c (balesOf c) := by
  unfold getsL
  exact List.map_congr_left fun v _ => h.gets v
theorem closes_nine {c : Chn} (hR : Right c) {m : List Int} (h : Closes c m) : Nine m := by
  intro y hy
  obtain ⟨i, hi⟩ := List.getElem?_of_mem hy
  have hlt : i < c.sales.length := by rw [← h.len]; exact (List.getElem?_eq_some_iff.1 hi).1
  have h1 := h.bd i _ y (List.getElem?_eq_getElem hlt) hi
  have h2 := (hR.sale _ (List.getElem_mem hlt)).2.2.2.1
  omega
/-- None costs less than the one that is found. -/
theorem opt_closes {c : Chn} (hR : Right c) {f : Nat → Int} {l m : List Int} (h : Opt (salsAt c f) (balesOf c) l) (hm : Closes c m) : cost (salsAt c f) l ≤ cost (salsAt c f) m :=
  opt_least (at_mem hR f) h ((costed_feas _ _ _ _).2 (closes_feas hm)) fun v => by
    unfold salsAt
    rw [costed_net, costed_net]
    exact hm.gets v
/-- By no other closing do fewer bales move; and by none as few before it. -/
theorem close_least {c : Chn} (hR : Right c) (hN : c.sales.length ≤ 11) {l m : List Int} (h : IsClose c l) (hm : Closes c m) : sumI l ≤ sumI m ∧ (sumI l = sumI m → l = m ∨ lexLt l m) := by
  have hl := closes_close h
  have hc := opt_closes hR h hm
  rw [refF_form] at hc
  have e1 := cost_digits 10000000000000 1 10 (salsOf c).length (salsOf c) 0 l (by rw [hl.len, sals_len]) (by simp)
  have e2 := cost_digits 10000000000000 1 10 (salsOf c).length (salsOf c) 0 m (by rw [hm.len, sals_len]) (by simp)
  rw [e1, e2] at hc
  have b1 := digits_bd (β := 10) (by decide) l (closes_nine hR hl)
  have b2 := digits_bd (β := 10) (by decide) m (closes_nine hR hm)
  have p1 := pow10_le (n := l.length) (by rw [hl.len]; exact hN)
  have p2 := pow10_le (n := m.length) (by rw [hm.len]; exact hN)
  refine ⟨by omega, fun he => ?_⟩
  rcases lex_total l m (by rw [hl.len, hm.len]) with h1 | h1 | h1
  · exact .inl h1
  · exact .inr h1
  · have := digits_lt (β := 10) (by decide) m l (by rw [hl.len, hm.len]) (closes_nine hR hm) (closes_nine hR hl) h1
    omega

/-! The numbers. -/
theorem prU_fix {s b : Nat} {u : Bool} {o : List Int} (h : LeL (prU s b u o) o) (hb : b < o.length) (hu : u = true) : o[s]?.getD 0 + 1 ≤ o[b]?.getD 0 := by
  apply Classical.byContradiction
  intro hn
  have h1 := h b
  unfold prU at h1
  rw [if_pos (by rw [hu, Bool.true_and]; exact decide_eq_true (by omega)), getD_set, if_pos ⟨rfl, hb⟩] at h1
  omega
theorem prD_fix {s b : Nat} {d : Bool} {o : List Int} (h : LeL (prD s b d o) o) (hs : s < o.length) (hd : d = true) : o[b]?.getD 0 ≤ o[s]?.getD 0 + 1 := by
  apply Classical.byContradiction
  intro hn
  have h1 := h s
  unfold prD at h1
  rw [if_pos (by rw [hd, Bool.true_and]; exact decide_eq_true (by omega)), getD_set, if_pos ⟨rfl, hs⟩] at h1
  omega
theorem prTo_mono (c : Chn) (l o : List Int) (k : Nat) : ∀ d, LeL (prTo c l o k) (prTo c l o (k + d))
  | 0 => LeL.refl _
  | d + 1 => by
    refine (prTo_mono c l o k d).trans ?_
    rw [← Nat.add_assoc, prTo]
    split
    · exact prS_up _ _ _ _
    · exact LeL.refl _
/-- **Along each sale by which a bale moves they rise, and by one at most where not all move.** -/
theorem pr_topped {c : Chn} {l P : List Int} (hR : Right c) (h : IsPr c l P) : Top c l P := by
  obtain ⟨j, hj, hP⟩ := h
  have hlen : P.length = c.houses.length := by rw [← hj, prIt_len]
  have key : ∀ (k : Nat) (x : Sale) (y : Int), c.sales[k]? = some x → l[k]? = some y →
      (0 < y → P[(houseI c x.seller).toNat]?.getD 0 + 1 ≤ P[(houseI c x.buyer).toNat]?.getD 0) ∧ (y < x.bales → P[(houseI c x.buyer).toNat]?.getD 0 ≤ P[(houseI c x.seller).toNat]?.getD 0 + 1) := by
    intro k x y hx hy
    have hk : k < c.sales.length := (List.getElem?_eq_some_iff.1 hx).1
    obtain ⟨-, m1, m2, -⟩ := hR.sale x (List.mem_of_getElem? hx)
    have l1 := houseI_lt m1
    have l2 := houseI_lt m2
    have u1 : LeL P (prTo c l P k) := prTo_up c l P k
    have u2 : LeL (prTo c l P (k + 1)) P := by
      have := prTo_mono c l P (k + 1) (c.sales.length - (k + 1))
      rw [show k + 1 + (c.sales.length - (k + 1)) = c.sales.length by omega] at this
      rw [show prTo c l P c.sales.length = P from hP] at this
      exact this
    rw [prTo_succ hx hy] at u2
    have hlo : (prTo c l P k).length = c.houses.length := by rw [prTo_len, hlen]
    generalize prTo c l P k = o at u1 u2 hlo
    unfold prS at u2
    have u3 : LeL (prU (houseI c x.seller).toNat (houseI c x.buyer).toNat (decide (0 < y)) o) P := (prD_up _ _ _ _).trans u2
    have u4 := prU_up (houseI c x.seller).toNat (houseI c x.buyer).toNat (decide (0 < y)) o
    have f1 := fun hu => prU_fix (u3.trans u1) (by omega) (hu : decide (0 < y) = true)
    have hlo' : (prU (houseI c x.seller).toNat (houseI c x.buyer).toNat (decide (0 < y)) o).length = c.houses.length := by rw [prU_len, hlo]
    generalize prU (houseI c x.seller).toNat (houseI c x.buyer).toNat (decide (0 < y)) o = o' at u2 u3 u4 hlo'
    have f2 := fun hd => prD_fix (u2.trans (u1.trans u4)) (by omega) (hd : decide (y < x.bales) = true)
    have e1 := fun v => Int.le_antisymm (u1 v) ((u4.trans u3) v)
    have e2 := fun v => Int.le_antisymm ((u1.trans u4) v) (u3 v)
    refine ⟨fun h0 => ?_, fun h0 => ?_⟩
    · rw [e1, e1 (houseI c x.buyer).toNat]; exact f1 (decide_eq_true h0)
    · rw [e2, e2 (houseI c x.seller).toNat]; exact f2 (decide_eq_true h0)
  exact ⟨hlen, fun k x y hx hy => (key k x y hx hy).1, fun k x y hx hy => (key k x y hx hy).2⟩
theorem pr_smallZ {c : Chn} {l P : List Int} (hR : Right c) (hN : c.sales.length ≤ 10) (hl : IsClose c l) (h : IsPr c l P) (v : Nat) : 0 ≤ P[v]?.getD 0 ∧ P[v]?.getD 0 ≤ 6 := by
  obtain ⟨j, hj, -⟩ := h
  obtain ⟨π, hT, hπ⟩ := top_small hR hN hl
  have h1 := prIt_top hT (fun v => (hπ v).1) j v
  have h2 : ∀ j, LeL (List.replicate c.houses.length 0) (prIt c l j) := fun j => by
    induction j with
    | zero => exact LeL.refl _
    | succ j ih => exact ih.trans (prTo_up _ _ _ _)
  have h3 := h2 j v
  have h4 := hπ v
  rw [hj] at h1 h3
  have h5 : (List.replicate c.houses.length (0 : Int))[v]?.getD 0 = 0 := by
    rw [List.getElem?_replicate]
    split <;> rfl
  omega
end Go.Proofs.YtafdbgielmlihaaDoor
/- Way, plain: how many sales a house is away from another one; the first of the shortest ways. -/
namespace Go.Proofs.YtafdbgielmlihaaDoor
open Go.RowKit Go.Shelf
set_option linter.unusedSimpArgs false

/-- From the house v the last one is reached by so many sales, or fewer. -/
def toB (c : Chn) (t : Int) : Nat → Int → Bool
  | 0, v => decide (v = t)
  | k + 1, v => decide (v = t) || c.sales.any fun x => decide (x.seller = v) && toB c t k x.buyer
theorem toB_self (c : Chn) (t : Int) : ∀ k, toB c t k t = true
  | 0 => by simp [toB]
  | k + 1 => by simp [toB]
theorem toB_succ {c : Chn} {t : Int} {k : Nat} {v : Int} : toB c t (k + 1) v = true ↔ v = t ∨ ∃ x ∈ c.sales, x.seller = v ∧ toB c t k x.buyer = true := by
  rw [toB]
  simp [List.any_eq_true]
theorem toB_mono {c : Chn} {t : Int} : ∀ {k : Nat} {v : Int}, toB c t k v = true → toB c t (k + 1) v = true
  | 0, v, h => by
    have : v = t := by simpa [toB] using h
    rw [this]; exact toB_self c t 1
  | k + 1, v, h => by
    rcases toB_succ.1 h with rfl | ⟨x, hx, h1, h2⟩
    · exact toB_self c v _
    · exact toB_succ.2 (.inr ⟨x, hx, h1, toB_mono h2⟩)
theorem toB_le {c : Chn} {t : Int} {k : Nat} {v : Int} (h : toB c t k v = true) : ∀ d, toB c t (k + d) v = true
  | 0 => h
  | d + 1 => toB_mono (toB_le h d)
theorem toB_ge {c : Chn} {t : Int} {k j : Nat} {v : Int} (h : toB c t k v = true) (hj : k ≤ j) : toB c t j v = true := by
  obtain ⟨d, rfl⟩ := Nat.exists_eq_add_of_le hj
  exact toB_le h d
/-- Nothing new comes behind as many sales as there are houses. -/
theorem toB_stay {c : Chn} (hR : Right c) {t : Int} {k : Nat} (h : ∀ v ∈ c.houses, toB c t (k + 1) v = true → toB c t k v = true) : ∀ (d : Nat) (v : Int), v ∈ c.houses → toB c t (k + d) v = true → toB c t k v = true
  | 0, _, _, hv => hv
  | d + 1, v, hm, hv => by
    rcases toB_succ.1 hv with rfl | ⟨x, hx, h1, h2⟩
    · exact toB_self c v k
    · have hb := (hR.sale x hx).2.2.1
      exact h v hm (toB_succ.2 (.inr ⟨x, hx, h1, toB_stay hR h d _ hb h2⟩))
def cntB (c : Chn) (t : Int) (k : Nat) : Nat := c.houses.countP (toB c t k)
theorem count_lt {α : Type} {p q : α → Bool} : ∀ {l : List α}, (∀ x ∈ l, p x = true → q x = true) → (∃ x ∈ l, q x = true ∧ p x = false) → l.countP p < l.countP q
  | [], _, ⟨x, hx, _⟩ => by cases hx
  | a :: l, h, ⟨x, hx, h1, h2⟩ => by
    have hl : ∀ x ∈ l, p x = true → q x = true := fun x hx => h x (List.mem_cons_of_mem _ hx)
    have hle : l.countP p ≤ l.countP q := List.countP_mono_left hl
    rw [List.countP_cons, List.countP_cons]
    rcases List.mem_cons.1 hx with rfl | hx
    · rw [h1, h2]; simp; omega
    · have := count_lt hl ⟨x, hx, h1, h2⟩
      have ha := h a (List.mem_cons_self ..)
      cases hp : p a with
      | false => cases hq : q a <;> simp <;> omega
      | true => rw [ha hp]; simp; omega
theorem toB_full {c : Chn} (hR : Right c) {t : Int} (ht : t ∈ c.houses) {k : Nat} {v : Int} (hv : v ∈ c.houses) (h : toB c t k v = true) : toB c t c.houses.length v = true := by
  have key : ∀ k, (∃ j, j < k ∧ ∀ v ∈ c.houses, toB c t (j + 1) v = true → toB c t j v = true) ∨ k + 1 ≤ cntB c t k := by
    intro k
    induction k with
    | zero => exact .inr (List.countP_pos_iff.2 ⟨t, ht, toB_self c t 0⟩)
    | succ k ih =>
      rcases ih with ⟨j, hj, h1⟩ | h1
      · exact .inl ⟨j, by omega, h1⟩
      · by_cases hs : ∀ v ∈ c.houses, toB c t (k + 1) v = true → toB c t k v = true
        · exact .inl ⟨k, by omega, hs⟩
        · refine .inr ?_
          have : ∃ v ∈ c.houses, toB c t (k + 1) v = true ∧ toB c t k v = false := by
            apply Classical.byContradiction
            intro hn
            apply hs
            intro v hv h2
            cases h3 : toB c t k v with
            | true => rfl
            | false => exact absurd ⟨v, hv, h2, h3⟩ hn
          have := count_lt (p := toB c t k) (q := toB c t (k + 1)) (fun x _ => toB_mono) this
          unfold cntB at h1 ⊢
          omega
  rcases key c.houses.length with ⟨j, hj, h1⟩ | h1
  · rcases Nat.le_total k j with hk | hk
    · exact toB_ge (toB_ge h hk) (by omega)
    · obtain ⟨d, rfl⟩ := Nat.exists_eq_add_of_le hk
      exact toB_ge (toB_stay hR h1 d v hv h) (by omega)
  · have : cntB c t c.houses.length ≤ c.houses.length := List.countP_le_length
    omega
/-- So many sales, and no fewer. -/
structure Away (c : Chn) (t : Int) (d : Nat) (v : Int) : Prop where
  y : toB c t d v = true
  n : ∀ j, j < d → toB c t j v = false
theorem Away.one {c : Chn} {t v : Int} {d e : Nat} (h : Away c t d v) (k : Away c t e v) : d = e := by
  rcases Nat.lt_trichotomy d e with h1 | h1 | h1
  · have := k.n d h1; rw [h.y] at this; cases this
  · exact h1
  · have := h.n e h1; rw [k.y] at this; cases this
theorem away_exists {c : Chn} {t v : Int} : ∀ {k : Nat}, toB c t k v = true → ∃ d, d ≤ k ∧ Away c t d v
  | 0, h => ⟨0, Nat.le_refl _, h, fun j hj => absurd hj (Nat.not_lt_zero _)⟩
  | k + 1, h => by
    cases hk : toB c t k v with
    | true =>
      obtain ⟨d, h1, h2⟩ := away_exists hk
      exact ⟨d, by omega, h2⟩
    | false =>
      refine ⟨k + 1, Nat.le_refl _, h, fun j hj => ?_⟩
      cases hj' : toB c t j v with
      | false => rfl
      | true => rw [toB_ge hj' (by omega)] at hk; cases hk
/-- The first sale of the house that leads one nearer. -/
def nearB (c : Chn) (t v : Int) (k : Nat) (x : Sale) : Bool := decide (x.seller = v) && toB c t k x.buyer
def wayG (c : Chn) (t : Int) : Nat → Int → List Int
  | 0, _ => []
  | k + 1, v => match c.sales.find? (nearB c t v k) with
    | some x => x.number :: wayG c t k x.buyer
    | none => []
theorem away_step {c : Chn} {t v : Int} {k : Nat} (h : Away c t (k + 1) v) : ∃ i x, c.sales[i]? = some x ∧ c.sales.find? (nearB c t v k) = some x ∧ nearB c t v k x = true ∧ (∀ (j : Nat) (y : Sale), j < i → c.sales[j]? = some y → nearB c t v k y = false) ∧ Away c t k x.buyer := by
  rcases toB_succ.1 h.y with rfl | ⟨x, hx, h1, h2⟩
  · have := h.n k (by omega)
    rw [toB_self] at this
    cases this
  · have hf : (c.sales.find? (nearB c t v k)).isSome = true := List.find?_isSome.2 ⟨x, hx, by simp [nearB, h1, h2]⟩
    obtain ⟨z, hz⟩ := Option.isSome_iff_exists.1 hf
    obtain ⟨hz1, l1, l2, hz2, hz3⟩ := List.find?_eq_some_iff_append.1 hz
    refine ⟨l1.length, z, by rw [hz2]; simp, hz, hz1, fun j y hj hy => ?_, ?_⟩
    · rw [hz2, List.getElem?_append_left hj] at hy
      have := hz3 y (List.mem_of_getElem? hy)
      simpa using this
    · unfold nearB at hz1
      simp only [Bool.and_eq_true, decide_eq_true_eq] at hz1
      refine ⟨hz1.2, fun j hj => ?_⟩
      cases hb : toB c t j z.buyer with
      | false => rfl
      | true =>
        have h3 : toB c t (j + 1) v = true := toB_succ.2 (.inr ⟨z, List.mem_of_find?_eq_some hz, hz1.1, hb⟩)
        rw [h.n (j + 1) (by omega)] at h3
        cases h3
/-- What the way is, and the error. -/
def WayOf (c : Chn) (a b : Int) (l : List Int) (E : Int) : Prop :=
  if checkP c then
    if hasI c.houses a && hasI c.houses b then (∃ d, Away c b d a ∧ l = wayG c b d a ∧ E = 0) ∨ ((∀ k, toB c b k a = false) ∧ l = [] ∧ E = 6)
    else l = [] ∧ E = 6
  else l = [] ∧ E = 60
end Go.Proofs.YtafdbgielmlihaaDoor
/- Pays, Loses, Worst, plain. -/
namespace Go.Proofs.YtafdbgielmlihaaDoor
open Go.RowKit Go.Shelf
set_option linter.unusedSimpArgs false

/-- What is paid for the bales of each sale that do not move, as numbers that a house gets less. -/
def payN (c : Chn) (l : List Int) (p : Int) : List Int := (c.sales.zip l).map fun q => -((q.1.price - p) * (q.1.bales - q.2))
def paysB (c : Chn) (p : Int) : Bool := checkP c && inB 0 1000000 p
def paysE (c : Chn) (p : Int) : Int := if checkP c then (if inB 0 1000000 p then 0 else 62) else 60
def paysL (c : Chn) (l : List Int) (p : Int) : List Int := if paysB c p then getsL c (payN c l p) else []
theorem payN_len {c : Chn} {l : List Int} (h : l.length = c.sales.length) (p : Int) : (payN c l p).length = c.sales.length := by
  unfold payN
  rw [List.length_map, List.length_zip, h, Nat.min_self]
theorem payN_get {c : Chn} {l : List Int} {p : Int} {k : Nat} {x : Sale} {y : Int} (hx : c.sales[k]? = some x) (hy : l[k]? = some y) : (payN c l p)[k]? = some (-((x.price - p) * (x.bales - y))) := by
  unfold payN
  rw [List.getElem?_map, (List.getElem?_zip_eq_some (z := (x, y))).2 ⟨hx, hy⟩]
  rfl
theorem mul_bd {a b A B : Int} (ha : -A ≤ a ∧ a ≤ A) (hb : 0 ≤ b ∧ b ≤ B) (hA : 0 ≤ A) : -(A * B) ≤ a * b ∧ a * b ≤ A * B := by
  have h1 : A * b ≤ A * B := Int.mul_le_mul_of_nonneg_left hb.2 hA
  have h2 : a * b ≤ A * b := Int.mul_le_mul_of_nonneg_right ha.2 hb.1
  have h3 : -A * b ≤ a * b := Int.mul_le_mul_of_nonneg_right ha.1 hb.1
  rw [Int.neg_mul] at h3
  omega
/-- What a house loses by a sale, if another one stops. -/
def claimX (h st p : Int) (x : Sale) : Int := if x.seller = st ∧ x.buyer = h then (p - x.price) * x.bales else if x.buyer = st ∧ x.seller = h then (x.price - p) * x.bales else 0
def claimTo (c : Chn) (h st p : Int) (k : Nat) : Int := ((c.sales.take k).map (claimX h st p)).foldl (· + ·) 0
def claimI (c : Chn) (h st p : Int) : Int := claimTo c h st p c.sales.length
theorem claimTo_succ {c : Chn} {h st p : Int} {k : Nat} {x : Sale} (hx : c.sales[k]? = some x) : claimTo c h st p (k + 1) = claimTo c h st p k + claimX h st p x := by
  unfold claimTo
  rw [List.take_add_one, hx, List.map_append, List.foldl_append]
  rfl
theorem claimX_bd {h st p : Int} {x : Sale} (hp : 0 ≤ p ∧ p ≤ 1000000) (hb : 1 ≤ x.bales ∧ x.bales ≤ 9) (hx : 0 ≤ x.price ∧ x.price ≤ 1000000) : -9000000 ≤ claimX h st p x ∧ claimX h st p x ≤ 9000000 := by
  have h1 := mul_bd (a := p - x.price) (b := x.bales) (A := 1000000) (B := 9) (by omega) (by omega) (by omega)
  have h2 := mul_bd (a := x.price - p) (b := x.bales) (A := 1000000) (B := 9) (by omega) (by omega) (by omega)
  unfold claimX
  split
  · omega
  · split <;> omega
theorem claimTo_bd {c : Chn} {h st p : Int} (hR : Right c) (hp : 0 ≤ p ∧ p ≤ 1000000) : ∀ k : Nat, -(9000000 * (k : Int)) ≤ claimTo c h st p k ∧ claimTo c h st p k ≤ 9000000 * (k : Int)
  | 0 => by simp [claimTo]
  | k + 1 => by
    have ih := claimTo_bd (h := h) (st := st) hR hp k
    cases hx : c.sales[k]? with
    | none =>
      have : claimTo c h st p (k + 1) = claimTo c h st p k := by
        unfold claimTo
        rw [List.take_add_one, hx]
        simp
      rw [this]
      omega
    | some x =>
      rw [claimTo_succ hx]
      obtain ⟨-, -, -, h1, h2⟩ := hR.sale x (List.mem_of_getElem? hx)
      have := claimX_bd (h := h) (st := st) hp h1 h2
      omega
theorem claimI_bd {c : Chn} {h st p : Int} (hR : Right c) (hN : c.sales.length ≤ 10) (hp : 0 ≤ p ∧ p ≤ 1000000) : -90000000 ≤ claimI c h st p ∧ claimI c h st p ≤ 90000000 := by
  have := claimTo_bd (h := h) (st := st) hR hp c.sales.length
  unfold claimI
  omega
/-- What each house loses. -/
def loseS (c : Chn) (st : Int) (s : Span) (h : Int) : Span := ⟨max 0 (min (claimI c h st s.lo) (claimI c h st s.hi)), max 0 (max (claimI c h st s.lo) (claimI c h st s.hi))⟩
def pricedB (s : Span) : Bool := inB 0 1000000 s.lo && inB s.lo 1000000 s.hi
def losesE (c : Chn) (st : Int) (s : Span) : Int := if checkP c then (if hasI c.houses st then (if pricedB s then 0 else 62) else 6) else 60
def losesAll (c : Chn) (st : Int) (s : Span) : List Span := c.houses.map (loseS c st s)
def losesL (c : Chn) (st : Int) (s : Span) : List Span := if losesE c st s = 0 then losesAll c st s else []
theorem loseS_bd {c : Chn} {st h : Int} {s : Span} (hR : Right c) (hN : c.sales.length ≤ 10) (hs : pricedB s = true) : 0 ≤ (loseS c st s h).hi ∧ (loseS c st s h).hi ≤ 90000000 := by
  unfold pricedB at hs
  rw [Bool.and_eq_true, inB_iff, inB_iff] at hs
  have h1 := claimI_bd (h := h) (st := st) (p := s.lo) hR hN (by omega)
  have h2 := claimI_bd (h := h) (st := st) (p := s.hi) hR hN (by omega)
  simp only [loseS]
  omega
/-- All that is lost together. -/
def hiTo (l : List Span) (k : Nat) : Int := ((l.take k).map (·.hi)).foldl (· + ·) 0
def hiI (l : List Span) : Int := hiTo l l.length
theorem hiTo_succ {l : List Span} {k : Nat} {x : Span} (hx : l[k]? = some x) : hiTo l (k + 1) = hiTo l k + x.hi := by
  unfold hiTo
  rw [List.take_add_one, hx, List.map_append, List.foldl_append]
  rfl
theorem hiTo_bd {l : List Span} {B : Int} (hB : 0 ≤ B) (h : ∀ x ∈ l, 0 ≤ x.hi ∧ x.hi ≤ B) : ∀ k : Nat, 0 ≤ hiTo l k ∧ hiTo l k ≤ B * k
  | 0 => by simp [hiTo]
  | k + 1 => by
    have ih := hiTo_bd hB h k
    cases hx : l[k]? with
    | none =>
      have : hiTo l (k + 1) = hiTo l k := by
        unfold hiTo
        rw [List.take_add_one, hx]
        simp
      rw [this, Int.natCast_succ, Int.mul_add]
      omega
    | some x =>
      rw [hiTo_succ hx, Int.natCast_succ, Int.mul_add]
      have := h x (List.mem_of_getElem? hx)
      omega
/-- The first of the houses by whose stopping most is lost. -/
def worstTo (c : Chn) (s : Span) : Nat → Int × Int
  | 0 => (0, -1)
  | k + 1 => match c.houses[k]? with
    | some h => if (worstTo c s k).2 < hiI (losesAll c h s) then (h, hiI (losesAll c h s)) else worstTo c s k
    | none => worstTo c s k
def worstE (c : Chn) (s : Span) : Int := if checkP c then (if pricedB s then (if c.houses.length = 0 then 6 else 0) else 62) else 60
def worstP (c : Chn) (s : Span) : Int × Int := if worstE c s = 0 then worstTo c s c.houses.length else (0, 0)
theorem worstTo_succ {c : Chn} {s : Span} {k : Nat} {h : Int} (hh : c.houses[k]? = some h) : worstTo c s (k + 1) = if (worstTo c s k).2 < hiI (losesAll c h s) then (h, hiI (losesAll c h s)) else worstTo c s k := by
  rw [worstTo, hh]
theorem hiI_bd {c : Chn} {st : Int} {s : Span} (hR : Right c) (hN : c.sales.length ≤ 10) (hs : pricedB s = true) : 0 ≤ hiI (losesAll c st s) ∧ hiI (losesAll c st s) ≤ 1000000000 := by
  have h1 := hiTo_bd (l := losesAll c st s) (B := 90000000) (by decide) (fun x hx => by
    obtain ⟨h, -, rfl⟩ := List.mem_map.1 hx
    exact loseS_bd hR hN hs) (losesAll c st s).length
  have h2 : (losesAll c st s).length ≤ 6 := by unfold losesAll; rw [List.length_map]; exact hR.h6
  unfold hiI
  omega
end Go.Proofs.YtafdbgielmlihaaDoor
/- What a house loses at a price: the program's claim.at, the reference's Claims. -/
namespace Go.Proofs.YtafdbgielmlihaaDoor
open Go.RowKit Go.Shelf Go.Lib
set_option maxRecDepth 100000
set_option linter.unusedSimpArgs false

theorem claimX_eq {h st p : Int} {x : Sale} {q1 q2 q3 q4 : Bool} (h1 : decide (x.seller = st) = q1) (h2 : decide (x.buyer = h) = q2) (h3 : decide (x.buyer = st) = q3) (h4 : decide (x.seller = h) = q4) :
    claimX h st p x = if q1 && q2 then (p - x.price) * x.bales else if q3 && q4 then (x.price - p) * x.bales else 0 := by
  subst h1 h2 h3 h4
  unfold claimX
  simp
theorem bool_two {a b : Int} : ∃ q, decide (a = b) = q ∧ (a == b) = q := ⟨_, rfl, by cases h : (a == b) <;> simp_all⟩
set_option maxHeartbeats 4000000 in
theorem claimAt_any (c : Chn) (h st p : Int) (hv sv : Value) (w : World) (hR : Right c) (hN : c.sales.length ≤ 10) (hp : 0 ≤ p ∧ p ≤ 1000000) (hh : SlI w hv c.houses) (hs : SlL w sv c.sales) :
    Calls Tryd.prog 94 #[.agg #[hv, sv, .int .i64 h, .int .i64 st], .int .i64 p] w fun e w' => e = .returned (.int .i64 (max 0 (claimI c h st p))) ∧ Ext w w' := by
  have HS := Lib.hid hs; have HR := Lib.hid hR
  obtain ⟨A, n, cp, rfl, -, -, -⟩ := hh.form
  obtain ⟨A2, n2, cp2, rfl, hn2, hlc2, hcm2⟩ := hs.form
  have HN := Lib.hid hN
  clear hh hs hR hN
  go_enter Tryd.func94, Tryd.ntmps94
  go_wp2
  skip
  refine wp_loop_ghost_k (fun g A' V => ∃ (k : Nat), k ≤ n2 ∧ n2 - k ≤ g ∧ Fr 63 [(1, .int .i64 p), (2, .pointer (some ⟨w.heap.size, 0, none⟩)), (5, .int .i64 (claimTo c h st p k)), (10, .slice A2 n2 cp2), (11, .int .i64 (n2 : Int)), (12, .int .i64 (k : Int))] [] A' ∧ Ext (w.alloc (.cells #[.slice A n cp, .slice A2 n2 cp2, .int .i64 h, .int .i64 st] 132)) V) n2 ?_ ?_
  · exact ⟨0, by omega, by omega, ⟨rfl, rfl, by simp [Act.eval, claimTo]⟩, Ext.refl _⟩
  · rintro g A' V ⟨k, hk, hg, hF, hE⟩ J K' hJ hK
    have HJ := Lib.hid hJ; have EV := Lib.hid hE
    obtain ⟨ρ, rfl, hρ⟩ := hF.open_
    simp only [List.forall_mem_cons] at hρ
    obtain ⟨r1, r2, r5, r10, r11, r12, -⟩ := hρ
    simp only [lst, Nat.reduceAdd, r1, r2, r5, r10, r11, r12]
    clear r1 r2 r5 r10 r11 r12
    have hz := hE.size
    clear hF hE hJ
    simp only [World.size_alloc] at hz
    have hbd := claimTo_bd (h := h) (st := st) HR.out hp k
    obtain ⟨a, ha⟩ : ∃ a, claimTo c h st p k = a := ⟨_, rfl⟩
    rw [ha] at hbd
    have HA := Lib.hid ha
    simp only [ha]
    have hk10 : k ≤ 10 := by have := hn2.out; have := HN.out; omega
    by_cases hlt : k < n2
    · have hltz : (k : Int) < (n2 : Int) := by omega
      obtain ⟨d0, d1, d2, d3, df, dl⟩ := ((Blk.new w 132 #[.slice A n cp, .slice A2 n2 cp2, .int .i64 h, .int .i64 st]).ext EV.out).c4
      obtain ⟨b, off, x, rfl, hx, -, hcell⟩ := ((HS.out.ext (Ext.al _ _)).ext EV.out).at_ hlt
      obtain ⟨c0, c1, c2, c3, c4⟩ := SlL.cells hcell (Ext.refl _)
      obtain ⟨hsb, -, -, hbal, hpri⟩ := HR.out.sale x (List.mem_of_getElem? hx)
      have hst := claimTo_succ (h := h) (st := st) (p := p) hx
      rw [ha] at hst
      obtain ⟨q1, h1, h1'⟩ := bool_two (a := x.seller) (b := st)
      obtain ⟨q2, h2, h2'⟩ := bool_two (a := x.buyer) (b := h)
      obtain ⟨q3, h3, h3'⟩ := bool_two (a := x.buyer) (b := st)
      obtain ⟨q4, h4, h4'⟩ := bool_two (a := x.seller) (b := h)
      rw [claimX_eq h1 h2 h3 h4] at hst
      have hex : q1 = true → q3 = true → False := fun e1 e3 => by
        subst e1 e3
        exact hsb ((of_decide_eq_true h1).trans (of_decide_eq_true h3).symm)
      have HEX := Lib.hid hex
      clear hsb hex
      have m1 := mul_bd (a := p - x.price) (b := x.bales) (A := 1000000) (B := 9) (by omega) (by omega) (by omega)
      have m2 := mul_bd (a := x.price - p) (b := x.bales) (A := 1000000) (B := 9) (by omega) (by omega) (by omega)
      obtain ⟨z1, hz1⟩ : ∃ z, (p - x.price) * x.bales = z := ⟨_, rfl⟩
      obtain ⟨z2, hz2⟩ : ∃ z, (x.price - p) * x.bales = z := ⟨_, rfl⟩
      rw [hz1] at m1 hst
      rw [hz2] at m2 hst
      have HST := Lib.hid hst
      have w1 : IntKind.i64.wrap (p - x.price) = p - x.price := by rw [IntKind.wrap_i64]; omega
      have w2 : IntKind.i64.wrap (x.price - p) = x.price - p := by rw [IntKind.wrap_i64]; omega
      have w3 : IntKind.i64.wrap ((p - x.price) * x.bales) = z1 := by rw [hz1, IntKind.wrap_i64]; omega
      have w4 : IntKind.i64.wrap ((x.price - p) * x.bales) = z2 := by rw [hz2, IntKind.wrap_i64]; omega
      have w5 : IntKind.i64.wrap (a + z1) = a + z1 := by rw [IntKind.wrap_i64]; omega
      have w6 : IntKind.i64.wrap (a + z2) = a + z2 := by rw [IntKind.wrap_i64]; omega
      clear hcell hx hst ha hz1 hz2 h1 h2 h3 h4 m1 m2
      have EA := Lib.hid (fun o => EV.out.alloc (o := o))
      cases q1 <;> cases q2 <;> cases q3 <;> cases q4 <;> first | (exact (HEX.out rfl rfl).elim) | (
        clear HEX
        go_wp2
        exact Handed.intro (n2 - (k + 1)) (by omega) (HJ.out _ _ _ ⟨k + 1, by omega, Nat.le_refl _, ⟨rfl, rfl, by rw [HST.out]; simp [Act.eval]⟩, EV.out.alloc _⟩))
    · have HE := Lib.hid (show k = n2 by omega)
      go_wp2
      go_ret
      refine ⟨?_, (Ext.al _ _).trans EV.out⟩
      rw [show claimI c h st p = a by have := HA.out; unfold claimI; rw [← this]; congr 1; have := HE.out; have := hn2.out; omega]
      first | rfl | (exact ret_int (by omega))
end Go.Proofs.YtafdbgielmlihaaDoor
/- Loses: the program's. -/
namespace Go.Proofs.YtafdbgielmlihaaDoor
open Go.RowKit Go.Shelf Go.Lib
set_option maxRecDepth 100000
set_option linter.unusedSimpArgs false

abbrev valSp (s : Span) : Value := .agg #[.int .i64 s.lo, .int .i64 s.hi]
theorem callVal_bound (g : FuncId) (r : Value) (vs : Array Value) : callVal (.func (.func g) #[r] #[]) vs = callFunc g (#[r] ++ vs) := by
  simp only [callVal, Deferred.ofValue]
  simp
  rfl
theorem priced_any (s : Span) (w : World) : Calls Tryd.prog 93 #[valSp s] w fun e w' => e = .returned (.bool (pricedB s)) ∧ Ext w w' := by
  go_enter Tryd.func93, Tryd.ntmps93
  go_wp2_with fail
  refine (in2_any 0 1000000 s.lo s.hi (w.heap.size + 1) _ (by simp) (by simp [go_sem]) (by simp [go_sem])).mono ?_
  rintro e w2 ⟨rfl, hE⟩
  have E2 := Lib.hid (((Ext.al w _).alloc _).trans hE)
  have B2 := Lib.hid (show Blk w2 w.heap.size 48 #[.int .i64 s.lo, .int .i64 s.hi] from ((Blk.new _ _ _).alloc _).ext hE)
  have HP := Lib.hid (show pricedB s = ((inB 0 1000000 s.lo && inB 0 1000000 s.hi) && decide (s.lo ≤ s.hi)) by
    unfold pricedB inB
    by_cases h1 : (0 : Int) ≤ s.lo <;> by_cases h2 : s.lo ≤ 1000000 <;> by_cases h3 : s.lo ≤ s.hi <;> by_cases h4 : s.hi ≤ 1000000 <;> by_cases h5 : (0 : Int) ≤ s.hi <;> simp [h1, h2, h3, h4, h5] <;> omega)
  clear hE
  obtain ⟨x0, x1, xf, xl⟩ := B2.out.c2
  cases hq : (inB 0 1000000 s.lo && inB 0 1000000 s.hi) with
  | false =>
    have HQ := Lib.hid hq; clear hq
    go_wp2
    go_ret
    exact ⟨ret_bool (by rw [HP.out, HQ.out]; rfl), E2.out⟩
  | true =>
    have HQ := Lib.hid hq; clear hq
    go_wp2
    go_ret
    exact ⟨ret_bool (by rw [HP.out, HQ.out]; simp), E2.out⟩
theorem encS_1 : ∀ x, ∀ u ∈ encS x, u.oneCell' = true := by
  intro x u hu
  simp only [encS, List.mem_cons, List.not_mem_nil, or_false] at hu
  rcases hu with rfl | rfl <;> rfl
theorem info48x : (Tryd.prog.info? 48).map (fun i => (i.zero, i.size, i.bytes)) = some (some (.agg #[.int .i64 0, .int .i64 0]), 2, 16) := by kernel_rfl
theorem cells2s {w : World} {b : Nat} {x y : Value} (h0 : w.cell? ⟨b, 0, none⟩ = some x) (h1 : w.cell? ⟨b, 1, none⟩ = some y) : ∀ (j : Nat) (u : Value), [x, y][j]? = some u → w.cell? ⟨b, j, none⟩ = some u := by
  intro j u hu
  match j, hu with
  | 0, hu => simp at hu; subst hu; exact h0
  | 1, hu => simp at hu; subst hu; exact h1
  | j + 2, hu => simp at hu
/-- Spans and an error. -/
def SpansE (l : List Span) (E : Int) (w : World) (e : Ending) (w' : World) : Prop := (∃ v, e = .returned (.tuple #[v, .int .i64 E]) ∧ SlS w' v l) ∧ Ext w w'
theorem loses_nil {c : Chn} {st : Int} {s : Span} {E : Int} (h : losesE c st s = E) (h0 : E ≠ 0) : losesL c st s = [] := by
  unfold losesL
  rw [if_neg (by rw [h]; exact h0)]
theorem losesTo_succ {c : Chn} {st : Int} {s : Span} {k : Nat} {id : Int} (h : c.houses[k]? = some id) : (c.houses.take (k + 1)).map (loseS c st s) = (c.houses.take k).map (loseS c st s) ++ [loseS c st s id] := by
  rw [List.take_add_one, h, List.map_append]
  rfl
set_option maxHeartbeats 4000000 in
theorem loses_any (c : Chn) (st : Int) (s : Span) (hv sv : Value) (w : World) (hT : Tab w) (hh : SlI w hv c.houses) (hs : SlL w sv c.sales) (hl : c.sales.length ≤ 1000) :
    Calls Tryd.prog 39 #[valC hv sv, .int .i64 st, valSp s] w (SpansE (losesL c st s) (losesE c st s) w) := by
  have HT := Lib.hid hT; have HH := Lib.hid hh; have HS := Lib.hid hs; have HL := Lib.hid hl
  obtain ⟨A, n, cp, rfl, hn, hlc, hcm⟩ := hh.form
  obtain ⟨A2, n2, cp2, rfl, hn2, hlc2, hcm2⟩ := hs.form
  obtain ⟨w0, hw0⟩ : ∃ w0, w0 = (w.alloc (.cells #[.slice A n cp, .slice A2 n2 cp2] 25)).alloc (.cells #[.int .i64 s.lo, .int .i64 s.hi] 48) := ⟨_, rfl⟩
  have E0 := Lib.hid (show Ext w w0 from hw0 ▸ (Ext.al _ _).alloc _)
  have B0 := Lib.hid (show Blk w0 w.heap.size 25 #[.slice A n cp, .slice A2 n2 cp2] from hw0 ▸ (Blk.new _ _ _).alloc _)
  have C0 := Lib.hid (show Blk w0 (w.heap.size + 1) 48 #[.int .i64 s.lo, .int .i64 s.hi] from hw0 ▸ Blk.at_ (by simp))
  have hz0 : w0.heap.size = w.heap.size + 2 := by rw [hw0]; simp
  clear hh hs hT hl
  go_enter Tryd.func39, Tryd.ntmps39
  go_wp2_with fail
  simp only [← hw0]
  clear hw0
  refine (check_any c _ _ _ (HT.out.ext E0.out) (HH.out.ext E0.out) (HS.out.ext E0.out) HL.out).mono ?_
  rintro e w1 ⟨rfl, hE⟩
  have E1 := Lib.hid (E0.out.trans hE); have B1 := Lib.hid (B0.out.ext hE); have C1 := Lib.hid (C0.out.ext hE)
  have hz1 := hE.size
  clear hE
  cases hc : checkP c with
  | false =>
    have HO := Lib.hid (show losesE c st s = 60 by unfold losesE; rw [hc]; rfl)
    clear hc
    dsimp only [errB]
    go_wp2
    go_ret2
    exact ⟨⟨.slice none 0 0, by rw [HO.out]; rfl, by rw [loses_nil HO.out (by decide)]; exact Sl.nil _⟩, E1.out⟩
  | true =>
    have HR := Lib.hid (check_right hc).1
    have HS10 := Lib.hid (check_right hc).2
    have HCK := Lib.hid hc
    clear hc
    dsimp only [errB]
    have x0 := B1.out.c2
    go_wp2_with fail
    clear x0
    refine (has_any c.houses _ st _ (HH.out.ext E1.out)).mono ?_
    rintro e w2 ⟨rfl, hE⟩
    have E2 := Lib.hid (E1.out.trans hE); have B2 := Lib.hid (B1.out.ext hE); have C2 := Lib.hid (C1.out.ext hE)
    have hz2 := hE.size
    clear hE
    cases hq : hasI c.houses st with
    | false =>
      have HO := Lib.hid (show losesE c st s = 6 by unfold losesE; rw [HCK.out, hq]; rfl)
      clear hq
      go_wp2
      go_ret2
      exact ⟨⟨.slice none 0 0, by rw [HO.out]; rfl, by rw [loses_nil HO.out (by decide)]; exact Sl.nil _⟩, E2.out⟩
    | true =>
      have HQ := Lib.hid hq
      clear hq
      have x0 := C2.out.c2
      go_wp2_with fail
      clear x0
      refine (priced_any s _).mono ?_
      rintro e w3 ⟨rfl, hE⟩
      have E3 := Lib.hid (E2.out.trans hE); have B3 := Lib.hid (B2.out.ext hE); have C3 := Lib.hid (C2.out.ext hE)
      have hz3 := hE.size
      clear hE
      cases hp : pricedB s with
      | false =>
        have HO := Lib.hid (show losesE c st s = 62 by unfold losesE; rw [HCK.out, HQ.out, hp]; rfl)
        clear hp
        go_wp2
        go_ret2
        exact ⟨⟨.slice none 0 0, by rw [HO.out]; rfl, by rw [loses_nil HO.out (by decide)]; exact Sl.nil _⟩, E3.out⟩
      | true =>
        have HO := Lib.hid (show losesE c st s = 0 by unfold losesE; rw [HCK.out, HQ.out, hp]; rfl)
        have HOL := Lib.hid (show losesL c st s = losesAll c st s by unfold losesL; rw [if_pos HO.out])
        have hpb : (0 ≤ s.lo ∧ s.lo ≤ 1000000) ∧ (0 ≤ s.hi ∧ s.hi ≤ 1000000) := by
          unfold pricedB at hp
          rw [Bool.and_eq_true, inB_iff, inB_iff] at hp
          omega
        have HPB := Lib.hid hpb
        clear hp hpb
        have hn6 : n ≤ 6 := by have := HR.out.h6; have := hn.out; omega
        have x0 := B3.out.c2
        go_wp2
        clear x0
        refine wp_loop_ghost_k (fun g A' W => ∃ (k : Nat) (A1 : Option Addr) (n1 d1 : Nat), k ≤ n ∧ n - k ≤ g ∧ Fr 60 [(1, .int .i64 st), (3, .pointer (some ⟨w.heap.size, 0, none⟩)), (5, .pointer (some ⟨w.heap.size + 1, 0, none⟩)), (8, .slice A1 n1 d1), (29, .slice A n cp), (30, .int .i64 (n : Int)), (31, .int .i64 (k : Int))] [] A' ∧
          Ext w3 W ∧ Own encS 48 2 W w3.heap.size (.slice A1 n1 d1) ((c.houses.take k).map (loseS c st s))) n ?_ ?_
        · exact ⟨0, none, 0, 0, by omega, by omega, ⟨rfl, rfl, by simp [Act.eval]⟩, Ext.refl _, by simpa using Own.nil _ _⟩
        · rintro g A' U ⟨k, A1, n1, d1, hk, hg, hF, hE, hOw⟩ J K' hJ hK
          have HJ := Lib.hid hJ; have EU := Lib.hid hE; have OU := Lib.hid hOw
          have hzU := hE.size
          obtain ⟨ρ, rfl, hρ⟩ := hF.open_
          simp only [List.forall_mem_cons] at hρ
          obtain ⟨r1, r3, r5, r8, r29, r30, r31, -⟩ := hρ
          simp only [lst, Nat.reduceAdd, r1, r3, r5, r8, r29, r30, r31]
          clear r1 r3 r5 r8 r29 r30 r31 hF hE hOw hJ
          have EWU := Lib.hid (E3.out.trans EU.out)
          by_cases hlt : k < n
          · have hltz : (k : Int) < (n : Int) := by omega
            obtain ⟨b9, off9, id, rfl, hx, -, hcell⟩ := (HH.out.ext EWU.out).at_ hlt
            have c9 := SlI.cell hcell (Ext.refl _)
            have HST := Lib.hid (losesTo_succ (st := st) (s := s) hx)
            have x0 := (B3.out.ext EU.out).c2
            have m1 := fun W (h : Ext U W) => ((C3.out.ext EU.out).ext h).c2
            have rb := callVal_bound
            clear hx hcell
            go_wp2
            clear x0 c9
            refine wp_region_tame (fun W => Ext U W) (fun W W' => Ext W W') (by kernel_rfl) 60 rfl (by decide +kernel) (Ext.refl _).drew ?_
            repeat (apply tame_q rfl; (intro ρ W hC hr hD; (obtain ⟨hrc, hrg, hrf, hrs⟩ := hr); (simp [go_sem] at hD); go_simp; first | exact ⟨⟨hC, Ext.refl _⟩, rfl⟩ | exact ⟨⟨hC, RS.refl _⟩, rfl⟩ | exact rfl); simp only [List.nil_append, List.cons_append])
            apply tame_q rfl
            · intro ρ W hC hr hD
              obtain ⟨hrc, hrg, hrf, hrs⟩ := hr
              simp [go_sem] at hD
              go_simp
              refine (claimAt_any c id st s.lo _ _ W HR.out HS10.out HPB.out.1 (HH.out.ext (EWU.out.trans hC)) (HS.out.ext (EWU.out.trans hC))).mono ?_
              rintro e w' ⟨rfl, hE⟩
              exact ⟨_, rfl, ⟨hC.trans hE, hE⟩, rfl⟩
            simp only [List.nil_append, List.cons_append]
            repeat (apply tame_q rfl; (intro ρ W hC hr hD; (obtain ⟨hrc, hrg, hrf, hrs⟩ := hr); (simp [go_sem] at hD); go_simp; first | exact ⟨⟨hC, Ext.refl _⟩, rfl⟩ | exact ⟨⟨hC, RS.refl _⟩, rfl⟩ | exact rfl); simp only [List.nil_append, List.cons_append])
            apply tame_q rfl
            · intro ρ W hC hr hD
              obtain ⟨hrc, hrg, hrf, hrs⟩ := hr
              simp [go_sem] at hD
              go_simp
              refine (claimAt_any c id st s.hi _ _ W HR.out HS10.out HPB.out.2 (HH.out.ext (EWU.out.trans hC)) (HS.out.ext (EWU.out.trans hC))).mono ?_
              rintro e w' ⟨rfl, hE⟩
              exact ⟨_, rfl, ⟨hC.trans hE, hE⟩, rfl⟩
            simp only [List.nil_append, List.cons_append]
            repeat (apply tame_q rfl; (intro ρ W hC hr hD; (obtain ⟨hrc, hrg, hrf, hrs⟩ := hr); (simp [go_sem] at hD); go_simp; first | exact ⟨⟨hC, Ext.refl _⟩, rfl⟩ | exact ⟨⟨hC, RS.refl _⟩, rfl⟩ | exact rfl); simp only [List.nil_append, List.cons_append])
            refine tame_end_put rfl rfl (fun ρ W hC hr hF => ?_)
            simp [go_sem] at hF
            simp only [putF, hF, List.set_cons_succ, List.set_cons_zero]
            clear hF hr
            have HC := Lib.hid hC
            have hzW := hC.size
            clear hC m1 rb
            obtain ⟨a, ha⟩ : ∃ a, claimI c id st s.lo = a := ⟨_, rfl⟩
            obtain ⟨b, hb⟩ : ∃ b, claimI c id st s.hi = b := ⟨_, rfl⟩
            simp only [ha, hb]
            have HAB := Lib.hid (show loseS c st s id = ⟨max 0 (min a b), max 0 (max a b)⟩ by unfold loseS; rw [ha, hb])
            clear ha hb
            have hlen : ((c.houses.take k).map (loseS c st s)).length ≤ 10 := by rw [List.length_map, List.length_take]; omega
            have HSL := Lib.hid (show loseS c st s id = ⟨min (max 0 a) (max 0 b), max 0 (max a (max 0 b))⟩ by rw [HAB.out]; congr 1 <;> omega)
            go_wp2_with (at_builtin; refine wpList_app encS 56 48 2 _ 16 Tryd.underlying56 info48x rfl (by decide) (by decide) (fun _ => rfl) encS_1 rfl (.tmp 48) (.tmp 56) rfl w3.heap.size _ ((c.houses.take k).map (loseS c st s)) rfl ((OU.out.ext HC.out).alloc _) W.heap.size 1 ⟨min (max 0 a) (max 0 b), max 0 (max a (max 0 b))⟩ rfl (cells2s (by simp [go_sem]) (by simp [go_sem])) (by omega) (by simp; omega) ?_)
            intro g9 cap w9 hown hg9 hbel hgr
            have HO9 := Lib.hid hown
            have HE9 := Lib.hid (show Ext w3 w9 from Below.trans ((EU.out.trans HC.out).alloc _) hbel)
            clear hown hbel hgr
            go_wp2
            exact Handed.intro (n - (k + 1)) (by omega) (HJ.out _ _ _ ⟨k + 1, _, _, _, by omega, Nat.le_refl _, ⟨rfl, rfl, by simp [Act.eval]; first | done | exact ⟨rfl, rfl, rfl⟩⟩, HE9.out, by rw [HST.out, HSL.out]; first | exact HO9.out | (rw [List.map_take]; exact HO9.out)⟩)
          · have HE := Lib.hid (show k = n by omega)
            go_wp2
            go_ret2
            refine ⟨⟨.slice A1 n1 d1, by rw [HO.out]; rfl, ?_⟩, EWU.out⟩
            have := OU.out
            rw [List.take_of_length_le (by have := HE.out; have := hn.out; omega)] at this
            rw [HOL.out]
            exact this.sl (fun _ => rfl)
end Go.Proofs.YtafdbgielmlihaaDoor
/- Way, plain: the reference's labels. -/
namespace Go.Proofs.YtafdbgielmlihaaDoor
open Go.RowKit Go.Shelf
set_option linter.unusedSimpArgs false

theorem away_zero {c : Chn} {t v : Int} {k : Nat} (h : Away c t k v) : v = t ↔ k = 0 := by
  constructor
  · rintro rfl
    rcases Nat.eq_zero_or_pos k with h0 | h0
    · exact h0
    · have := h.n 0 h0; rw [toB_self] at this; cases this
  · rintro rfl
    simpa [toB] using h.y
end Go.Proofs.YtafdbgielmlihaaDoor
/- Way, plain: the ways that the program goes on with, layer by layer. -/
namespace Go.Proofs.YtafdbgielmlihaaDoor
open Go.RowKit Go.Shelf
set_option linter.unusedSimpArgs false

abbrev Wy := Int × List Int
/-- At p stands the beginning of the way, r sales are to come; none ahead of it is as near. -/
def Lay (c : Chn) (t : Int) (l : List Int) (r : Nat) (L : List Wy) (p : Nat) (cur : Int) (nums : List Int) : Prop :=
  L[p]? = some (cur, nums) ∧ Away c t r cur ∧ nums ++ wayG c t r cur = l ∧ ∀ i e, i < p → L[i]? = some e → toB c t r e.1 = false
def Far (c : Chn) (t : Int) (r : Nat) (v : Int) : Prop := ∀ j, j < r → toB c t j v = false
def BInv (c : Chn) (t : Int) (l : List Int) (E : Int) (m : Int → Bool) (L : List Wy) : Prop :=
  (E = 0 ∧ ∃ r p cur nums, Lay c t l r L p cur nums ∧ (∀ e ∈ L, Far c t r e.1) ∧ ∀ v, m v = true → Far c t r v) ∨
  (l = [] ∧ E = 6 ∧ ∀ e ∈ L, ∀ k, toB c t k e.1 = false)
/-- While a layer is gone through. -/
def PInv (c : Chn) (t : Int) (l : List Int) (E : Int) (L : List Wy) (i j : Nat) (m : Int → Bool) (N : List Wy) : Prop :=
  (E = 0 ∧ ∃ r p cur nums, Lay c t l r L p cur nums ∧ (∀ e ∈ L, Far c t r e.1) ∧
    ((r = 0 ∧ i ≤ p) ∨ ∃ r', r = r' + 1 ∧ (∀ v, m v = true → Far c t r' v) ∧ (∀ e ∈ N, Far c t r' e.1) ∧
      (((i < p ∨ (i = p ∧ ∀ k y, k < j → c.sales[k]? = some y → nearB c t cur r' y = false)) ∧ (∀ v, m v = true → toB c t r' v = false) ∧ ∀ e ∈ N, toB c t r' e.1 = false) ∨
        ∃ p' cur' nums', Lay c t l r' N p' cur' nums'))) ∨
  (l = [] ∧ E = 6 ∧ (∀ e ∈ L, ∀ k, toB c t k e.1 = false) ∧ ∀ e ∈ N, ∀ k, toB c t k e.1 = false)
theorem Far.last {c : Chn} {t : Int} {r : Nat} {v : Int} (h : Far c t (r + 1) v) : Far c t r v ∧ toB c t r v = false := ⟨fun j hj => h j (by omega), h r (by omega)⟩
theorem binv_start {c : Chn} {t : Int} {l : List Int} {E : Int} {m : Int → Bool} {L : List Wy} (h : BInv c t l E m L) : PInv c t l E L 0 0 m [] := by
  rcases h with ⟨h0, r, p, cur, nums, h1, h2, h3⟩ | ⟨h0, h1, h2⟩
  · refine .inl ⟨h0, r, p, cur, nums, h1, h2, ?_⟩
    match r with
    | 0 => exact .inl ⟨rfl, Nat.zero_le _⟩
    | r + 1 =>
      refine .inr ⟨r, rfl, fun v hv => (h3 v hv).last.1, by simp, .inl ⟨?_, fun v hv => (h3 v hv).last.2, by simp⟩⟩
      rcases Nat.eq_zero_or_pos p with hp | hp
      · exact .inr ⟨hp.symm, fun k y hk => absurd hk (Nat.not_lt_zero _)⟩
      · exact .inl hp
  · exact .inr ⟨h0, h1, h2, by simp⟩
theorem binv_nil {c : Chn} {t : Int} {l : List Int} {E : Int} {m : Int → Bool} (h : BInv c t l E m []) : l = [] ∧ E = 6 := by
  rcases h with ⟨h0, r, p, cur, nums, h1, -⟩ | ⟨h0, h1, -⟩
  · have := h1.1; simp at this
  · exact ⟨h0, h1⟩
theorem pinv_found {c : Chn} {t : Int} {l : List Int} {E : Int} {L : List Wy} {i j : Nat} {m : Int → Bool} {N : List Wy} {nums : List Int} (h : PInv c t l E L i j m N) (hi : L[i]? = some (t, nums)) : l = nums ∧ E = 0 := by
  have hm := List.mem_of_getElem? hi
  rcases h with ⟨h0, r, p, cur, nums', h1, h2, h3⟩ | ⟨-, -, h2, -⟩
  · rcases h3 with ⟨rfl, hip⟩ | ⟨r', rfl, -⟩
    · rcases Nat.lt_or_ge i p with hlt | hge
      · have := h1.2.2.2 i _ hlt hi
        rw [toB_self] at this; cases this
      · obtain rfl : i = p := by omega
        have := h1.1
        rw [hi] at this
        injection this with this
        injection this with h4 h5
        subst h4; subst h5
        have := h1.2.2.1
        simp [wayG] at this
        exact ⟨this.symm, h0⟩
    · have := h2 _ hm 0 (by omega)
      rw [toB_self] at this; cases this
  · have := h2 _ hm 0
    rw [toB_self] at this; cases this
theorem pinv_next {c : Chn} {t : Int} {l : List Int} {E : Int} {L : List Wy} {i : Nat} {m : Int → Bool} {N : List Wy} {e : Wy} (h : PInv c t l E L i c.sales.length m N) (hi : L[i]? = some e) (hne : e.1 ≠ t) : PInv c t l E L (i + 1) 0 m N := by
  rcases h with ⟨h0, r, p, cur, nums, h1, h2, h3⟩ | ⟨h0, h1, h2, h3⟩
  · refine .inl ⟨h0, r, p, cur, nums, h1, h2, ?_⟩
    rcases h3 with ⟨rfl, hip⟩ | ⟨r', rfl, h3, h4, h5⟩
    · refine .inl ⟨rfl, ?_⟩
      rcases Nat.lt_or_ge i p with hlt | hge
      · exact hlt
      · obtain rfl : i = p := by omega
        have := h1.1
        rw [hi] at this
        injection this with this
        subst this
        exact absurd ((away_zero h1.2.1).2 rfl) hne
    · refine .inr ⟨r', rfl, h3, h4, ?_⟩
      rcases h5 with ⟨h5, h6, h7⟩ | h5
      · refine .inl ⟨?_, h6, h7⟩
        rcases h5 with h5 | ⟨rfl, h5⟩
        · rcases Nat.lt_or_ge (i + 1) p with h8 | h8
          · exact .inl h8
          · exact .inr ⟨by omega, fun k y hk => absurd hk (Nat.not_lt_zero _)⟩
        · obtain ⟨i0, x, hx, -, hn, -⟩ := away_step h1.2.1
          have := h5 i0 x (List.getElem?_eq_some_iff.1 hx).1 hx
          rw [hn] at this; cases this
      · exact .inr h5
  · exact .inr ⟨h0, h1, h2, h3⟩
theorem pinv_end {c : Chn} {t : Int} {l : List Int} {E : Int} {L : List Wy} {m : Int → Bool} {N : List Wy} {j : Nat} (h : PInv c t l E L L.length j m N) : BInv c t l E m N := by
  rcases h with ⟨h0, r, p, cur, nums, h1, h2, h3⟩ | ⟨h0, h1, h2, h3⟩
  · have hp : p < L.length := (List.getElem?_eq_some_iff.1 h1.1).1
    rcases h3 with ⟨-, h⟩ | ⟨r', rfl, h3, h4, h5⟩
    · omega
    · rcases h5 with ⟨h5 | ⟨h5, -⟩, -⟩ | ⟨p', cur', nums', h5⟩
      · omega
      · omega
      · exact .inl ⟨h0, r', p', cur', nums', h5, h4, h3⟩
  · exact .inr ⟨h0, h1, h3⟩
def wTake (x : Sale) (e : Wy) (m : Int → Bool) : Bool := x.seller == e.1 && !m x.buyer
def metS (m : Int → Bool) (y : Int) : Int → Bool := fun v => if v = y then true else m v
theorem pinv_skip {c : Chn} {t : Int} {l : List Int} {E : Int} {L : List Wy} {i j : Nat} {m : Int → Bool} {N : List Wy} {e : Wy} {x : Sale} (h : PInv c t l E L i j m N) (hi : L[i]? = some e) (hx : c.sales[j]? = some x) (hk : wTake x e m = false) : PInv c t l E L i (j + 1) m N := by
  rcases h with ⟨h0, r, p, cur, nums, h1, h2, h3⟩ | h
  · refine .inl ⟨h0, r, p, cur, nums, h1, h2, ?_⟩
    rcases h3 with h3 | ⟨r', rfl, h3, h4, h5⟩
    · exact .inl h3
    · refine .inr ⟨r', rfl, h3, h4, ?_⟩
      rcases h5 with ⟨h5, h6, h7⟩ | h5
      · refine .inl ⟨?_, h6, h7⟩
        rcases h5 with h5 | ⟨rfl, h5⟩
        · exact .inl h5
        · refine .inr ⟨rfl, fun k y hk' hy => ?_⟩
          rcases Nat.lt_or_ge k j with h8 | h8
          · exact h5 k y h8 hy
          · obtain rfl : k = j := by omega
            rw [hx] at hy; injection hy with hy; subst hy
            have := h1.1
            rw [hi] at this; injection this with this; subst this
            unfold nearB
            by_cases hs : x.seller = cur
            · unfold wTake at hk
              simp [hs] at hk
              rw [h6 _ hk]; simp
            · simp [hs]
      · exact .inr h5
  · exact .inr h
theorem lay_app {c : Chn} {t : Int} {l : List Int} {r : Nat} {N : List Wy} {p : Nat} {cur : Int} {nums : List Int} (h : Lay c t l r N p cur nums) (u : List Wy) : Lay c t l r (N ++ u) p cur nums := by
  have hp : p < N.length := (List.getElem?_eq_some_iff.1 h.1).1
  refine ⟨by rw [List.getElem?_append_left hp]; exact h.1, h.2.1, h.2.2.1, fun i e hi he => ?_⟩
  rw [List.getElem?_append_left (by omega)] at he
  exact h.2.2.2 i e hi he
theorem pinv_take {c : Chn} {t : Int} {l : List Int} {E : Int} {L : List Wy} {i j : Nat} {m : Int → Bool} {N : List Wy} {e : Wy} {x : Sale} (h : PInv c t l E L i j m N) (hi : L[i]? = some e) (hx : c.sales[j]? = some x) (hk : wTake x e m = true) :
    PInv c t l E L i (j + 1) (metS m x.buyer) (N ++ [(x.buyer, e.2 ++ [x.number])]) := by
  unfold wTake at hk
  simp only [Bool.and_eq_true, beq_iff_eq, Bool.not_eq_true'] at hk
  obtain ⟨hs, hm⟩ := hk
  have hxm := List.mem_of_getElem? hx
  have hem := List.mem_of_getElem? hi
  have up : ∀ k, toB c t k x.buyer = true → toB c t (k + 1) e.1 = true := fun k hk => toB_succ.2 (.inr ⟨x, hxm, hs, hk⟩)
  have mm : ∀ {p : Int → Prop}, p x.buyer → (∀ v, m v = true → p v) → ∀ v, metS m x.buyer v = true → p v := by
    intro p h1 h2 v hv
    unfold metS at hv
    split at hv
    · rename_i e; rw [e]; exact h1
    · exact h2 v hv
  have nn : ∀ {p : Int → Prop}, p x.buyer → (∀ u ∈ N, p u.1) → ∀ u ∈ N ++ [(x.buyer, e.2 ++ [x.number])], p u.1 := by
    intro p h1 h2 u hu
    rcases List.mem_append.1 hu with hu | hu
    · exact h2 u hu
    · simp at hu; rw [hu]; exact h1
  rcases h with ⟨h0, r, p, cur, nums, h1, h2, h3⟩ | ⟨h0, h1, h2, h3⟩
  · refine .inl ⟨h0, r, p, cur, nums, h1, h2, ?_⟩
    rcases h3 with h3 | ⟨r', rfl, h3, h4, h5⟩
    · exact .inl h3
    · have hf : Far c t r' x.buyer := fun k hk => by
        cases hb : toB c t k x.buyer with
        | false => rfl
        | true =>
          have := h2 e hem (k + 1) (by omega)
          rw [up k hb] at this; cases this
      refine .inr ⟨r', rfl, mm hf h3, nn hf h4, ?_⟩
      rcases h5 with ⟨h5, h6, h7⟩ | ⟨p', cur', nums', h5⟩
      · cases hb : toB c t r' x.buyer with
        | false =>
          refine .inl ⟨?_, mm (p := fun v => toB c t r' v = false) hb h6, nn (p := fun v => toB c t r' v = false) hb h7⟩
          rcases h5 with h5 | ⟨rfl, h5⟩
          · exact .inl h5
          · refine .inr ⟨rfl, fun k y hk hy => ?_⟩
            rcases Nat.lt_or_ge k j with h8 | h8
            · exact h5 k y h8 hy
            · obtain rfl : k = j := by omega
              rw [hx] at hy; injection hy with hy; subst hy
              unfold nearB; rw [hb]; simp
        | true =>
          rcases h5 with h5 | ⟨rfl, h5⟩
          · have := h1.2.2.2 i e h5 hi
            rw [up r' hb] at this; cases this
          · refine .inr ⟨N.length, x.buyer, e.2 ++ [x.number], by simp, ⟨hb, hf⟩, ?_, fun k u hk hu => ?_⟩
            · have h8 := h1.1
              rw [hi] at h8; injection h8 with h8; subst h8
              obtain ⟨i0, x0, hx0, hfd, hn0, hfr, -⟩ := away_step h1.2.1
              have hnx : nearB c t cur r' x = true := by
                unfold nearB
                simp only [Bool.and_eq_true, decide_eq_true_eq]
                exact ⟨hs, hb⟩
              have h9 : i0 = j := by
                rcases Nat.lt_trichotomy i0 j with h | h | h
                · have := h5 i0 x0 h hx0
                  rw [hn0] at this; cases this
                · exact h
                · have := hfr j x h hx
                  rw [hnx] at this; cases this
              rw [h9, hx] at hx0
              injection hx0 with hx0
              subst hx0
              have h10 := h1.2.2.1
              rw [wayG, hfd] at h10
              simpa using h10
            · rw [List.getElem?_append_left hk] at hu
              exact h7 u (List.mem_of_getElem? hu)
      · exact .inr ⟨p', cur', nums', lay_app h5 _⟩
  · refine .inr ⟨h0, h1, h2, nn (p := fun v => ∀ k, toB c t k v = false) (fun k => ?_) h3⟩
    cases hb : toB c t k x.buyer with
    | false => rfl
    | true =>
      have := h2 e hem (k + 1)
      rw [up k hb] at this; cases this
/-- The houses not met yet. -/
def cntU (c : Chn) (m : Int → Bool) : Nat := c.houses.countP fun v => !m v
theorem cntU_le (c : Chn) (m : Int → Bool) : cntU c m ≤ c.houses.length := List.countP_le_length
theorem cntU_take {c : Chn} {m : Int → Bool} {y : Int} (hy : y ∈ c.houses) (hm : m y = false) : cntU c (metS m y) + 1 ≤ cntU c m := by
  refine count_lt (fun v _ hv => ?_) ⟨y, hy, by simp [hm], by simp [metS]⟩
  unfold metS at hv
  split at hv
  · simp at hv
  · exact hv
def muW (c : Chn) (m : Int → Bool) (L : List Wy) : Nat := 2 * cntU c m + (if L.length = 0 then 0 else 1)
theorem muW_down {c : Chn} {m m' : Int → Bool} {L N : List Wy} (hL : 0 < L.length) (h : N.length + cntU c m' ≤ cntU c m) : muW c m' N < muW c m L := by
  unfold muW
  rw [if_neg (by omega : ¬ L.length = 0)]
  split <;> omega
end Go.Proofs.YtafdbgielmlihaaDoor
/- ChainWay, plain: no bale goes by fewer sales than the way; the way leads there. -/
namespace Go.Proofs.YtafdbgielmlihaaDoor
open Go.RowKit Go.Shelf
set_option linter.unusedSimpArgs false

theorem idxZ_pos {α : Type} {p : α → Bool} {l : List α} (h : 0 ≤ idxF p l) : ∃ (k : Nat) (x : α), idxF p l = (k : Int) ∧ l[k]? = some x ∧ p x = true := by
  rcases idxF_cases p l with ⟨e, _⟩ | ⟨k, x, e, h1, h2, _⟩
  · rw [e] at h; omega
  · exact ⟨k, x, e, h1, h2⟩
/-- Sales by which a bale goes from house to house. -/
def Goes (c : Chn) (t : Int) : Int → List Sale → Prop
  | a, [] => a = t
  | a, x :: L => x ∈ c.sales ∧ x.seller = a ∧ Goes c t x.buyer L
theorem goes_snoc {c : Chn} {x : Sale} (hx : x ∈ c.sales) : ∀ {L : List Sale} {a : Int}, Goes c x.seller a L → Goes c x.buyer a (L ++ [x])
  | [], _, h => ⟨hx, h.symm, rfl⟩
  | _ :: _, _, h => ⟨h.1, h.2.1, goes_snoc hx h.2.2⟩
theorem goes_to {c : Chn} {t : Int} : ∀ {L : List Sale} {a : Int}, Goes c t a L → toB c t L.length a = true
  | [], a, h => by rw [show a = t from h]; exact toB_self _ _ _
  | x :: _, _, h => toB_succ.2 (.inr ⟨x, h.1, h.2.1, goes_to h.2.2⟩)
theorem away_le {c : Chn} {t a : Int} {d : Nat} (h : Away c t d a) {L : List Sale} (hL : Goes c t a L) : d ≤ L.length := by
  apply Classical.byContradiction
  intro hn
  have := h.n L.length (by omega)
  rw [goes_to hL] at this
  cases this
def aheadB : List Int → List Int → Bool
  | x :: a, y :: b => if x = y then aheadB a b else decide (x < y)
  | _, _ => false
theorem sales_inj {c : Chn} (hR : Right c) {i j : Nat} {x y : Sale} (hx : c.sales[i]? = some x) (hy : c.sales[j]? = some y) (h : i < j) : x.number < y.number := by
  have hp := rising_pair hR.sr
  rw [List.pairwise_iff_getElem] at hp
  obtain ⟨h1, rfl⟩ := List.getElem?_eq_some_iff.1 hx
  obtain ⟨h2, rfl⟩ := List.getElem?_eq_some_iff.1 hy
  have := hp i j (by simpa using h1) (by simpa using h2) h
  simpa using this
theorem saleI_at {c : Chn} (hR : Right c) {i : Nat} {x : Sale} (hx : c.sales[i]? = some x) : saleI c x.number = (i : Int) := by
  unfold saleI
  exact idxF_some _ _ i x hx (by simp) fun j y hj hy => by
    have := sales_inj hR hy hx hj
    exact decide_eq_false (by omega)
theorem way_len {c : Chn} {t : Int} : ∀ {d : Nat} {a : Int}, Away c t d a → (wayG c t d a).length = d
  | 0, _, _ => rfl
  | d + 1, a, h => by
    obtain ⟨i, x, -, hf, -, -, h2⟩ := away_step h
    rw [wayG, hf]
    simp [way_len h2]
theorem not_ahead {c : Chn} (hR : Right c) {t : Int} : ∀ {d : Nat} {a : Int} {L : List Sale}, Away c t d a → Goes c t a L → L.length = d → aheadB (L.map (·.number)) (wayG c t d a) = false
  | 0, _, [], _, _, _ => rfl
  | 0, _, _ :: _, _, _, h => by simp at h
  | d + 1, _, [], _, _, h => by simp at h
  | d + 1, a, x :: L, h, hg, hl => by
    obtain ⟨i, z, hz, hf, -, hb, h2⟩ := away_step h
    obtain ⟨g1, g2, g3⟩ := hg
    obtain ⟨j, hj⟩ := List.getElem?_of_mem g1
    have hl' : L.length = d := by simpa using hl
    have hn : nearB c t a d x = true := by
      have := goes_to g3
      rw [hl'] at this
      simp [nearB, g2, this]
    rw [wayG, hf]
    simp only [List.map_cons, aheadB]
    rcases Nat.lt_trichotomy j i with e | e | e
    · rw [hb j x e hj] at hn; cases hn
    · subst e
      rw [hz] at hj
      injection hj with hj
      subst hj
      rw [if_pos rfl]
      exact not_ahead hR h2 g3 hl'
    · have := sales_inj hR hz hj e
      rw [if_neg (by omega)]
      exact decide_eq_false (by omega)
/-- The numbers lead from house to house. -/
def Leads (c : Chn) (t : Int) : Int → List Int → Prop
  | a, [] => a = t
  | a, k :: l => ∃ (i : Nat) (x : Sale), saleI c k = (i : Int) ∧ c.sales[i]? = some x ∧ x.seller = a ∧ Leads c t x.buyer l
theorem way_leads {c : Chn} (hR : Right c) {t : Int} : ∀ {d : Nat} {a : Int}, Away c t d a → Leads c t a (wayG c t d a)
  | 0, a, h => by
    have := h.y
    simp [toB] at this
    exact this
  | d + 1, a, h => by
    obtain ⟨i, z, hz, hf, hn, -, h2⟩ := away_step h
    rw [wayG, hf]
    unfold nearB at hn
    simp only [Bool.and_eq_true, decide_eq_true_eq] at hn
    exact ⟨i, z, saleI_at hR hz, hz, hn.1, way_leads hR h2⟩
end Go.Proofs.YtafdbgielmlihaaDoor
