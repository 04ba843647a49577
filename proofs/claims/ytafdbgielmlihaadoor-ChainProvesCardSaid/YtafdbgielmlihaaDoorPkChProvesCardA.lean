/- Proof, plain: the numbers that prove a closing; one pass over the sales, and its iterations up to where nothing rises. -/
import Derived.Test.YtafdbgielmlihaaDoorPkChTellsCardN
import Derived.Test.YtafdbgielmlihaaDoorPkChHandsCardB
namespace Go.Proofs.YtafdbgielmlihaaDoor
open Go.RowKit Go.Shelf
set_option linter.unusedSimpArgs false

/-- What a sale asks: the house at b is above the one at s, if a bale moves; b is at most one above s, if one does not. -/
def prU (s b : Nat) (u : Bool) (o : List Int) : List Int := if u && decide (o[b]?.getD 0 ≤ o[s]?.getD 0) then o.set b (o[s]?.getD 0 + 1) else o
def prD (s b : Nat) (d : Bool) (o : List Int) : List Int := if d && decide (o[s]?.getD 0 + 1 < o[b]?.getD 0) then o.set s (o[b]?.getD 0 - 1) else o
def prS (c : Chn) (x : Sale) (y : Int) (o : List Int) : List Int :=
  prD (houseI c x.seller).toNat (houseI c x.buyer).toNat (decide (y < x.bales)) (prU (houseI c x.seller).toNat (houseI c x.buyer).toNat (decide (0 < y)) o)
def prTo (c : Chn) (l : List Int) (o : List Int) : Nat → List Int
  | 0 => o
  | k + 1 => match c.sales[k]?, l[k]? with
    | some x, some y => prS c x y (prTo c l o k)
    | _, _ => prTo c l o k
def prPass (c : Chn) (l : List Int) (o : List Int) : List Int := prTo c l o c.sales.length
def prIt (c : Chn) (l : List Int) : Nat → List Int
  | 0 => List.replicate c.houses.length 0
  | k + 1 => prPass c l (prIt c l k)
/-- .. the end. -/
def IsPr (c : Chn) (l P : List Int) : Prop := ∃ k, prIt c l k = P ∧ prPass c l P = P
/-- Numbers above all of them. -/
structure Top (c : Chn) (l : List Int) (π : List Int) : Prop where
  len : π.length = c.houses.length
  up : ∀ (k : Nat) (x : Sale) (y : Int), c.sales[k]? = some x → l[k]? = some y → 0 < y → π[(houseI c x.seller).toNat]?.getD 0 + 1 ≤ π[(houseI c x.buyer).toNat]?.getD 0
  down : ∀ (k : Nat) (x : Sale) (y : Int), c.sales[k]? = some x → l[k]? = some y → y < x.bales → π[(houseI c x.buyer).toNat]?.getD 0 ≤ π[(houseI c x.seller).toNat]?.getD 0 + 1
def LeL (o π : List Int) : Prop := ∀ v : Nat, o[v]?.getD 0 ≤ π[v]?.getD 0
theorem LeL.refl (o : List Int) : LeL o o := fun _ => Int.le_refl _
theorem LeL.trans {a b c : List Int} (h : LeL a b) (k : LeL b c) : LeL a c := fun v => Int.le_trans (h v) (k v)
theorem getD_set (o : List Int) (i v : Nat) (x : Int) : (o.set i x)[v]?.getD 0 = if i = v ∧ i < o.length then x else o[v]?.getD 0 := by
  rw [List.getElem?_set]
  by_cases h : i = v
  · subst h
    by_cases h1 : i < o.length
    · simp [h1]
    · simp [h1, List.getElem?_eq_none (by omega : o.length ≤ i)]
  · simp [h]
theorem prU_len (s b : Nat) (u : Bool) (o : List Int) : (prU s b u o).length = o.length := by unfold prU; split <;> simp
theorem prD_len (s b : Nat) (d : Bool) (o : List Int) : (prD s b d o).length = o.length := by unfold prD; split <;> simp
theorem prU_up (s b : Nat) (u : Bool) (o : List Int) : LeL o (prU s b u o) := by
  intro v
  unfold prU
  split
  · rename_i h
    simp only [Bool.and_eq_true, decide_eq_true_eq] at h
    rw [getD_set]
    split
    · rename_i h2; obtain ⟨rfl, -⟩ := h2; omega
    · exact Int.le_refl _
  · exact Int.le_refl _
theorem prD_up (s b : Nat) (d : Bool) (o : List Int) : LeL o (prD s b d o) := by
  intro v
  unfold prD
  split
  · rename_i h
    simp only [Bool.and_eq_true, decide_eq_true_eq] at h
    rw [getD_set]
    split
    · rename_i h2; obtain ⟨rfl, -⟩ := h2; omega
    · exact Int.le_refl _
  · exact Int.le_refl _
theorem prU_top {s b : Nat} {u : Bool} {o π : List Int} (h : LeL o π) (hu : u = true → π[s]?.getD 0 + 1 ≤ π[b]?.getD 0) : LeL (prU s b u o) π := by
  intro v
  unfold prU
  split
  · rename_i h1
    simp only [Bool.and_eq_true, decide_eq_true_eq] at h1
    rw [getD_set]
    split
    · rename_i h2; obtain ⟨rfl, -⟩ := h2
      have := hu h1.1; have := h s; omega
    · exact h v
  · exact h v
theorem prD_top {s b : Nat} {d : Bool} {o π : List Int} (h : LeL o π) (hd : d = true → π[b]?.getD 0 ≤ π[s]?.getD 0 + 1) : LeL (prD s b d o) π := by
  intro v
  unfold prD
  split
  · rename_i h1
    simp only [Bool.and_eq_true, decide_eq_true_eq] at h1
    rw [getD_set]
    split
    · rename_i h2; obtain ⟨rfl, -⟩ := h2
      have := hd h1.1; have := h b; omega
    · exact h v
  · exact h v
theorem prS_len (c : Chn) (x : Sale) (y : Int) (o : List Int) : (prS c x y o).length = o.length := by unfold prS; rw [prD_len, prU_len]
theorem prS_up (c : Chn) (x : Sale) (y : Int) (o : List Int) : LeL o (prS c x y o) := (prU_up _ _ _ o).trans (prD_up _ _ _ _)
theorem prTo_len (c : Chn) (l o : List Int) : ∀ k, (prTo c l o k).length = o.length
  | 0 => rfl
  | k + 1 => by
    rw [prTo]
    split
    · rw [prS_len, prTo_len c l o k]
    · exact prTo_len c l o k
theorem prTo_up (c : Chn) (l o : List Int) : ∀ k, LeL o (prTo c l o k)
  | 0 => LeL.refl o
  | k + 1 => by
    rw [prTo]
    split
    · exact (prTo_up c l o k).trans (prS_up _ _ _ _)
    · exact prTo_up c l o k
theorem prTo_top {c : Chn} {l o π : List Int} (hT : Top c l π) (h : LeL o π) : ∀ k, LeL (prTo c l o k) π
  | 0 => h
  | k + 1 => by
    rw [prTo]
    split
    · rename_i x y hx hy
      refine prD_top (prU_top (prTo_top hT h k) fun hu => ?_) fun hd => ?_
      · exact hT.up k x y hx hy (of_decide_eq_true hu)
      · exact hT.down k x y hx hy (of_decide_eq_true hd)
    · exact prTo_top hT h k
theorem prTo_succ {c : Chn} {l o : List Int} {k : Nat} {x : Sale} {y : Int} (hx : c.sales[k]? = some x) (hy : l[k]? = some y) : prTo c l o (k + 1) = prS c x y (prTo c l o k) := by
  rw [prTo]
  simp only [hx, hy]
theorem prIt_len (c : Chn) (l : List Int) : ∀ k, (prIt c l k).length = c.houses.length
  | 0 => by simp [prIt]
  | k + 1 => by rw [prIt, prPass, prTo_len, prIt_len c l k]
theorem prIt_top {c : Chn} {l π : List Int} (hT : Top c l π) (h0 : ∀ v : Nat, 0 ≤ π[v]?.getD 0) : ∀ k, LeL (prIt c l k) π
  | 0 => fun v => by
    have := h0 v
    unfold prIt
    rw [List.getElem?_replicate]
    split <;> simpa
  | k + 1 => prTo_top hT (prIt_top hT h0 k) _
/-- How much room is left. -/
def gap (o π : List Int) : Nat := ((o.zip π).map fun p => (p.2 - p.1).toNat).sum
theorem gap_cons (a b : Int) (o π : List Int) : gap (a :: o) (b :: π) = (b - a).toNat + gap o π := by simp [gap]
theorem gap_le : ∀ {o o' π : List Int}, o.length = o'.length → LeL o o' → gap o' π ≤ gap o π
  | [], [], _, _, _ => Nat.le_refl _
  | a :: o, a' :: o', [], _, _ => by simp [gap]
  | a :: o, a' :: o', b :: π, hl, h => by
    rw [gap_cons, gap_cons]
    have h0 := h 0
    have ih := gap_le (o := o) (o' := o') (π := π) (by simpa using hl) fun v => by simpa using h (v + 1)
    simp at h0
    omega
theorem gap_lt : ∀ {o o' π : List Int}, o.length = o'.length → o'.length ≤ π.length → LeL o o' → LeL o' π → o ≠ o' → gap o' π < gap o π
  | [], [], _, _, _, _, _, hn => absurd rfl hn
  | a :: o, a' :: o', [], _, h, _, _, _ => by simp at h
  | a :: o, a' :: o', b :: π, hl, hp, h, ht, hn => by
    rw [gap_cons, gap_cons]
    have h0 := h 0
    have h1 := ht 0
    simp at h0 h1
    have hs : LeL o o' := fun v => by simpa using h (v + 1)
    by_cases e : a = a'
    · subst e
      have ih := gap_lt (o := o) (o' := o') (π := π) (by simpa using hl) (by simpa using hp) hs (fun v => by simpa using ht (v + 1)) fun e => hn (by rw [e])
      omega
    · have ih := gap_le (o := o) (o' := o') (π := π) (by simpa using hl) hs
      omega
theorem pr_step {c : Chn} {l π : List Int} (hT : Top c l π) (h0 : ∀ v : Nat, 0 ≤ π[v]?.getD 0) (k : Nat) (hn : prPass c l (prIt c l k) ≠ prIt c l k) : gap (prIt c l (k + 1)) π < gap (prIt c l k) π :=
  gap_lt (by rw [prIt_len, prIt_len]) (by rw [prIt_len, hT.len]; omega) (prTo_up _ _ _ _) (prIt_top hT h0 _) (fun e => hn (by rw [prIt] at e; exact e.symm))
theorem pr_stay {c : Chn} {l : List Int} {k : Nat} (h : prPass c l (prIt c l k) = prIt c l k) : ∀ j, prIt c l (k + j) = prIt c l k
  | 0 => rfl
  | j + 1 => by rw [← Nat.add_assoc, prIt, pr_stay h j, h]
theorem pr_one {c : Chn} {l P Q : List Int} (h : IsPr c l P) (h' : IsPr c l Q) : P = Q := by
  obtain ⟨k, rfl, hk⟩ := h
  obtain ⟨j, rfl, hj⟩ := h'
  rcases Nat.le_total k j with h | h
  · obtain ⟨d, rfl⟩ := Nat.exists_eq_add_of_le h
    exact (pr_stay hk d).symm
  · obtain ⟨d, rfl⟩ := Nat.exists_eq_add_of_le h
    exact pr_stay hj d
theorem pr_exists {c : Chn} {l π : List Int} (hT : Top c l π) (h0 : ∀ v : Nat, 0 ≤ π[v]?.getD 0) : ∃ P, IsPr c l P := by
  have key : ∀ (g k : Nat), gap (prIt c l k) π ≤ g → ∃ P, IsPr c l P := by
    intro g
    induction g with
    | zero =>
      intro k hk
      by_cases h : prPass c l (prIt c l k) = prIt c l k
      · exact ⟨_, k, rfl, h⟩
      · have := pr_step hT h0 k h; omega
    | succ g ih =>
      intro k hk
      by_cases h : prPass c l (prIt c l k) = prIt c l k
      · exact ⟨_, k, rfl, h⟩
      · exact ih (k + 1) (by have := pr_step hT h0 k h; omega)
  exact key _ 0 (Nat.le_refl _)
theorem low_exists (ρ : Nat → Int) : ∀ n : Nat, ∃ lo, ∀ v, v < n → lo ≤ ρ v
  | 0 => ⟨0, fun v hv => by omega⟩
  | n + 1 => by
    obtain ⟨lo, h⟩ := low_exists ρ n
    refine ⟨min lo (ρ n), fun v hv => ?_⟩
    by_cases e : v = n
    · subst e; omega
    · have := h v (by omega); omega
/-- **The closing is proved by numbers.** -/
theorem top_exists {c : Chn} {l : List Int} (hR : Right c) (hN : c.sales.length ≤ 10) (h : IsClose c l) : ∃ π, Top c l π ∧ ∀ v : Nat, 0 ≤ π[v]?.getD 0 := by
  unfold IsClose at h
  rw [refF_form] at h
  obtain ⟨-, -, π0, hπ⟩ := h
  have hb : ∀ k : Nat, (0 : Int) ≤ 1 * (10 : Int) ^ ((salsOf c).length - 1 - k) ∧ 1 * (10 : Int) ^ ((salsOf c).length - 1 - k) ≤ 10000000000 := fun k => by
    rw [Int.one_mul]
    have h1 : (salsOf c).length - 1 - k ≤ 10 := by rw [sals_len]; omega
    have h2 : (10 : Int) ^ ((salsOf c).length - 1 - k) * 1 ≤ 10 ^ ((salsOf c).length - 1 - k) * 10 ^ (10 - ((salsOf c).length - 1 - k)) := Int.mul_le_mul_of_nonneg_left (by have := Int.pow_pos (n := 10) (m := 10 - ((salsOf c).length - 1 - k)) (by decide); omega) (Int.le_of_lt (Int.pow_pos (by decide)))
    rw [← Int.pow_add, show (salsOf c).length - 1 - k + (10 - ((salsOf c).length - 1 - k)) = 10 by omega] at h2
    have h3 := Int.pow_pos (n := 10) (m := (salsOf c).length - 1 - k) (by decide)
    omega
  obtain ⟨ρ, hρ⟩ := unit_pot (sals_lt hR) (X := 10000000000000) (E := 10000000000) (e := fun k => 1 * (10 : Int) ^ ((salsOf c).length - 1 - k)) (by decide) (by have := hR.h6; omega) (fun k => by have := hb k; omega) hπ
  obtain ⟨lo, hlo⟩ := low_exists ρ c.houses.length
  have hget : ∀ v, v < c.houses.length → (((List.range c.houses.length).map fun v => ρ v - lo)[v]?.getD 0) = ρ v - lo := fun v hv => by
    rw [List.getElem?_map, List.getElem?_range hv]
    rfl
  have hsal : ∀ (k : Nat) (x : Sale), c.sales[k]? = some x → (costed (fun _ => 1) 0 (salsOf c))[k]? = some ⟨(houseI c x.seller).toNat, (houseI c x.buyer).toNat, x.bales, 1⟩ := fun k x hx => by
    rw [costed_get, salsOf, List.getElem?_map, hx]
    rfl
  have hlt : ∀ (k : Nat) (x : Sale), c.sales[k]? = some x → (houseI c x.seller).toNat < c.houses.length ∧ (houseI c x.buyer).toNat < c.houses.length := fun k x hx => by
    obtain ⟨-, h1, h2, -⟩ := hR.sale x (List.mem_of_getElem? hx)
    have := houseI_lt h1; have := houseI_lt h2
    omega
  refine ⟨(List.range c.houses.length).map fun v => ρ v - lo, ⟨by simp, fun k x y hx hy h0 => ?_, fun k x y hx hy h0 => ?_⟩, fun v => ?_⟩
  · obtain ⟨h1, h2⟩ := hlt k x hx
    have := hρ _ ((mem_res _ l 0 _).2 ⟨k, _, y, hsal k x hx, hy, .inr ⟨rfl, h0⟩⟩)
    simp only [bwd] at this
    rw [hget _ h1, hget _ h2]
    omega
  · obtain ⟨h1, h2⟩ := hlt k x hx
    have := hρ _ ((mem_res _ l 0 _).2 ⟨k, _, y, hsal k x hx, hy, .inl ⟨rfl, h0⟩⟩)
    simp only [fwd] at this
    rw [hget _ h1, hget _ h2]
    omega
  · by_cases hv : v < c.houses.length
    · rw [hget v hv]; have := hlo v hv; omega
    · rw [List.getElem?_eq_none (by simp; omega)]
      simp
end Go.Proofs.YtafdbgielmlihaaDoor
/- Proof, plain: the numbers are small: only how many others lie below counts. -/
namespace Go.Proofs.YtafdbgielmlihaaDoor
open Go.RowKit Go.Shelf
set_option linter.unusedSimpArgs false

def uniqI : List Int → List Int
  | [] => []
  | x :: l => if x ∈ uniqI l then uniqI l else x :: uniqI l
theorem mem_uniq {x : Int} : ∀ {l : List Int}, x ∈ uniqI l ↔ x ∈ l
  | [] => by simp [uniqI]
  | y :: l => by
    unfold uniqI
    by_cases h : y ∈ uniqI l
    · rw [if_pos h, List.mem_cons, mem_uniq]
      constructor
      · exact .inr
      · rintro (rfl | h')
        · exact mem_uniq.1 h
        · exact h'
    · rw [if_neg h, List.mem_cons, List.mem_cons, mem_uniq]
theorem uniq_len : ∀ l : List Int, (uniqI l).length ≤ l.length
  | [] => Nat.le_refl _
  | y :: l => by
    have := uniq_len l
    unfold uniqI
    split <;> simp <;> omega
theorem uniq_one (x : Int) : ∀ l : List Int, (uniqI l).countP (fun z => decide (z = x)) ≤ 1
  | [] => by simp [uniqI]
  | y :: l => by
    have ih := uniq_one x l
    unfold uniqI
    by_cases h : y ∈ uniqI l
    · rw [if_pos h]; exact ih
    · rw [if_neg h, List.countP_cons]
      by_cases e : y = x
      · subst e
        have h0 : (uniqI l).countP (fun z => decide (z = y)) = 0 := by
          rw [List.countP_eq_zero]
          intro z hz hzy
          exact h ((of_decide_eq_true hzy) ▸ hz)
        rw [h0]
        simp
      · simp [e]
        simpa using ih
theorem count_step (x y : Int) : ∀ L : List Int, x < y → L.countP (fun z => decide (z < x)) + L.countP (fun z => decide (z = x)) ≤ L.countP (fun z => decide (z < y))
  | [], _ => by simp
  | a :: L, h => by
    have ih := count_step x y L h
    simp only [List.countP_cons, decide_eq_true_eq]
    split <;> split <;> split <;> omega
theorem count_near (x y : Int) : ∀ L : List Int, y ≤ x + 1 → L.countP (fun z => decide (z < y)) ≤ L.countP (fun z => decide (z < x)) + L.countP (fun z => decide (z = x))
  | [], _ => by simp
  | a :: L, h => by
    have ih := count_near x y L h
    simp only [List.countP_cons, decide_eq_true_eq]
    split <;> split <;> split <;> omega
def rankI (π : List Int) (x : Int) : Int := ((uniqI π).countP (fun z => decide (z < x)) : Int)
theorem rank_up {π : List Int} {x y : Int} (hx : x ∈ π) (h : x + 1 ≤ y) : rankI π x + 1 ≤ rankI π y := by
  have h1 := count_step x y (uniqI π) (by omega)
  have h2 : 0 < (uniqI π).countP (fun z => decide (z = x)) := List.countP_pos_iff.2 ⟨x, mem_uniq.2 hx, by simp⟩
  unfold rankI
  omega
theorem rank_near {π : List Int} {x y : Int} (h : y ≤ x + 1) : rankI π y ≤ rankI π x + 1 := by
  have h1 := count_near x y (uniqI π) h
  have h2 := uniq_one x π
  unfold rankI
  omega
theorem top_small {c : Chn} {l : List Int} (hR : Right c) (hN : c.sales.length ≤ 10) (h : IsClose c l) : ∃ π, Top c l π ∧ ∀ v : Nat, 0 ≤ π[v]?.getD 0 ∧ π[v]?.getD 0 ≤ 6 := by
  obtain ⟨π, hT, -⟩ := top_exists hR hN h
  have hget : ∀ v, v < c.houses.length → ((π.map (rankI π))[v]?.getD 0 = rankI π (π[v]?.getD 0)) ∧ π[v]?.getD 0 ∈ π := fun v hv => by
    have hv' : v < π.length := by rw [hT.len]; exact hv
    rw [List.getElem?_map, List.getElem?_eq_getElem hv']
    exact ⟨rfl, List.getElem_mem hv'⟩
  have hlt : ∀ (k : Nat) (x : Sale), c.sales[k]? = some x → (houseI c x.seller).toNat < c.houses.length ∧ (houseI c x.buyer).toNat < c.houses.length := fun k x hx => by
    obtain ⟨-, h1, h2, -⟩ := hR.sale x (List.mem_of_getElem? hx)
    have := houseI_lt h1; have := houseI_lt h2
    omega
  refine ⟨π.map (rankI π), ⟨by rw [List.length_map, hT.len], fun k x y hx hy h0 => ?_, fun k x y hx hy h0 => ?_⟩, fun v => ?_⟩
  · obtain ⟨h1, h2⟩ := hlt k x hx
    rw [(hget _ h1).1, (hget _ h2).1]
    exact rank_up (hget _ h1).2 (hT.up k x y hx hy h0)
  · obtain ⟨h1, h2⟩ := hlt k x hx
    rw [(hget _ h1).1, (hget _ h2).1]
    exact rank_near (hT.down k x y hx hy h0)
  · by_cases hv : v < c.houses.length
    · rw [(hget v hv).1]
      have h1 : (uniqI π).countP (fun z => decide (z < π[v]?.getD 0)) ≤ (uniqI π).length := List.countP_le_length
      have h2 := uniq_len π
      have h3 := hT.len
      have h4 := hR.h6
      unfold rankI
      omega
    · rw [List.getElem?_eq_none (by rw [List.length_map, hT.len]; omega)]
      simp
end Go.Proofs.YtafdbgielmlihaaDoor
/- Proof: the program's. -/
namespace Go.Proofs.YtafdbgielmlihaaDoor
open Go.RowKit Go.Shelf Go.Lib
set_option maxRecDepth 100000
set_option linter.unusedSimpArgs false

theorem equal_any (l l' : List Int) (v v' : Value) (w : World) (h : SlI w v l) (h' : SlI w v' l') :
    Calls Tryd.prog 82 #[v, v'] w fun e w' => e = .returned (.bool (decide (l = l'))) ∧ Ext w w' := by
  have HA := Lib.hid h; have HB := Lib.hid h'
  obtain ⟨A, n, cp, rfl, hn, hlc, hcm⟩ := h.form
  obtain ⟨A2, n2, cp2, rfl, hn2, hlc2, hcm2⟩ := h'.form
  clear h h'
  go_enter Tryd.func82, Tryd.ntmps82
  by_cases hnn : n2 = n
  · subst hnn
    go_wp2
    refine wp_loop_ghost_k (fun g A' W => ∃ (k : Nat), k ≤ n2 ∧ n2 - k ≤ g ∧ Fr 26 [(0, .slice A n2 cp), (1, .slice A2 n2 cp2), (12, .int .i64 (n2 : Int)), (13, .int .i64 (k : Int))] [] A' ∧ Ext w W ∧ l.take k = l'.take k) n2 ?_ ?_
    · exact ⟨0, by omega, by omega, ⟨rfl, rfl, by simp [Act.eval]⟩, Ext.refl _, by simp⟩
    · rintro g A' U ⟨k, hk, hg, hF, hE, ht⟩ J K' hJ hK'
      have HJ := Lib.hid hJ; have EU := Lib.hid hE; have HT := Lib.hid ht
      obtain ⟨ρ, rfl, hρ⟩ := hF.open_
      simp only [List.forall_mem_cons] at hρ
      obtain ⟨r0, r1, r12, r13, -⟩ := hρ
      simp only [lst, Nat.reduceAdd, r0, r1, r12, r13]
      clear r0 r1 r12 r13 hF hE ht hJ
      by_cases hlt : k < n2
      · have hltz : (k : Int) < (n2 : Int) := by omega
        obtain ⟨b, off, x, rfl, hx, -, hcell⟩ := HA.out.at_ hlt
        obtain ⟨b', off', y, rfl, hy, -, hcell'⟩ := HB.out.at_ hlt
        have m0 := fun W (h : Ext U W) => SlI.cell hcell (EU.out.trans h)
        have m1 := fun W (h : Ext U W) => SlI.cell hcell' (EU.out.trans h)
        have HX := Lib.hid hx; have HY := Lib.hid hy
        clear hx hy hcell hcell'
        go_wp2
        by_cases hxy : x = y
        · subst hxy
          refine wp_region_tame (fun W => Ext U W) (fun W W' => Ext W W') (by kernel_rfl) 26 rfl (by decide +kernel) (Ext.refl _).drew ?_
          repeat (apply tame_q rfl; (intro ρ W hC hr hD; (obtain ⟨hrc, hrg, hrf, hrs⟩ := hr); (simp [go_sem] at hD); go_simp; first | exact ⟨⟨hC, Ext.refl _⟩, rfl⟩ | exact ⟨⟨hC, RS.refl _⟩, rfl⟩ | exact rfl); simp only [List.nil_append, List.cons_append])
          refine tame_end 26 rfl rfl (fun ρ W hC hr hF => ?_)
          obtain ⟨hrc, hrg, hrf, hrs⟩ := hr
          simp [go_sem] at hF
          apply frame_to
          · go_simp
            exact rfl
          clear hF hrs hrc hrg hrf
          have HC := Lib.hid hC
          clear hC m0 m1
          go_wp2
          exact Handed.intro (n2 - (k + 1)) (by omega) (HJ.out _ _ _ ⟨k + 1, by omega, Nat.le_refl _, ⟨rfl, rfl, by simp [Act.eval]⟩, EU.out.trans HC.out, by rw [List.take_add_one, List.take_add_one, HX.out, HY.out, HT.out]⟩)
        · have h1 : (x == y) = false := by simpa using hxy
          have HN := Lib.hid (show decide (l = l') = false from decide_eq_false fun e => hxy (by
            have h1 := HX.out; have h2 := HY.out
            rw [e, h2] at h1
            injection h1 with h1
            exact h1.symm))
          clear hxy
          refine wp_region_tame (fun W => Ext U W) (fun W W' => Ext W W') (by kernel_rfl) 26 rfl (by decide +kernel) (Ext.refl _).drew ?_
          repeat (apply tame_q rfl; (intro ρ W hC hr hD; (obtain ⟨hrc, hrg, hrf, hrs⟩ := hr); (simp [go_sem] at hD); go_simp; first | exact ⟨⟨hC, Ext.refl _⟩, rfl⟩ | exact ⟨⟨hC, RS.refl _⟩, rfl⟩ | exact rfl); simp only [List.nil_append, List.cons_append])
          refine tame_end 26 rfl rfl (fun ρ W hC hr hF => ?_)
          obtain ⟨hrc, hrg, hrf, hrs⟩ := hr
          simp [go_sem] at hF
          apply frame_to
          · go_simp
            exact rfl
          clear hF hrs hrc hrg hrf
          have HC := Lib.hid hC
          clear hC m0 m1
          go_wp2
          go_ret
          exact ⟨ret_bool HN.out.symm, EU.out.trans HC.out⟩
      · have HE := Lib.hid (show k = n2 by omega)
        go_wp2
        go_ret
        refine ⟨ret_bool (decide_eq_true ?_).symm, EU.out⟩
        have := HT.out
        rw [List.take_of_length_le (by have := HE.out; have := hn.out; omega), List.take_of_length_le (by have := HE.out; have := hn2.out; omega)] at this
        exact this
  · have hnz : ((n : Int) == (n2 : Int)) = false := by simpa using fun e : (n : Int) = n2 => hnn (by omega)
    have HN := Lib.hid (show decide (l = l') = false from decide_eq_false fun e => hnn (by have := hn.out; have := hn2.out; rw [e] at hn; have := hn.out; omega))
    go_wp2
    go_ret
    exact ⟨ret_bool HN.out.symm, Ext.refl _⟩
theorem set_same {o : List Int} {b : Nat} {y : Int} (h : o[b]? = some y) : o.set b y = o := by
  obtain ⟨h1, h2⟩ := List.getElem?_eq_some_iff.1 h
  rw [← h2]
  exact List.set_getElem_self h1
theorem prU_on {o : List Int} {s b : Nat} {x y : Int} (hs : o[s]? = some x) (hb : o[b]? = some y) : prU s b true o = o.set b (max y (x + 1)) := by
  unfold prU
  rw [hs, hb]
  simp only [Option.getD, Bool.true_and]
  by_cases h : y ≤ x
  · rw [if_pos (decide_eq_true h), show max y (x + 1) = x + 1 by omega]
  · rw [if_neg (by simpa using h), show max y (x + 1) = y by omega]
    exact (set_same hb).symm
theorem prU_off {o : List Int} {s b : Nat} : prU s b false o = o := by simp [prU]
theorem prD_on {o : List Int} {s b : Nat} {x y : Int} (hs : o[s]? = some x) (hb : o[b]? = some y) : prD s b true o = o.set s (max x (y - 1)) := by
  unfold prD
  rw [hs, hb]
  simp only [Option.getD, Bool.true_and]
  by_cases h : x + 1 < y
  · rw [if_pos (decide_eq_true h), show max x (y - 1) = y - 1 by omega]
  · rw [if_neg (by simpa using h), show max x (y - 1) = x by omega]
    exact (set_same hs).symm
theorem prD_off {o : List Int} {s b : Nat} : prD s b false o = o := by simp [prD]
end Go.Proofs.YtafdbgielmlihaaDoor
/- Proof: the program's, whole. -/
namespace Go.Proofs.YtafdbgielmlihaaDoor
open Go.RowKit Go.Shelf Go.Lib
set_option maxRecDepth 100000
set_option linter.unusedSimpArgs false

/-- The numbers that prove a closing; none, where a chain is not valid. -/
def ProofOf (c : Chn) (l P : List Int) : Prop := (checkP c = true → IsPr c l P) ∧ (checkP c = false → P = [])
theorem pr_small {c : Chn} {l π : List Int} (hT : Top c l π) (h6 : ∀ v : Nat, 0 ≤ π[v]?.getD 0 ∧ π[v]?.getD 0 ≤ 6) (k i v : Nat) : 0 ≤ (prTo c l (prIt c l k) i)[v]?.getD 0 ∧ (prTo c l (prIt c l k) i)[v]?.getD 0 ≤ 6 := by
  have h1 := prTo_top hT (prIt_top hT (fun v => (h6 v).1) k) i v
  have h2 : ∀ (k v : Nat), 0 ≤ (prIt c l k)[v]?.getD 0 := by
    intro k
    induction k with
    | zero =>
      intro v
      unfold prIt
      rw [List.getElem?_replicate]
      split <;> simp
    | succ k ih =>
      intro v
      exact Int.le_trans (ih v) (prTo_up c l (prIt c l k) _ v)
  have h3 := prTo_up c l (prIt c l k) i v
  have h4 := h2 k v
  have h5 := h6 v
  omega
set_option maxHeartbeats 8000000 in
theorem proof_any (c : Chn) (l P : List Int) (hv sv : Value) (w : World) (hcl : CloseOf c l) (hpr : ProofOf c l P) (hT : Tab w) (hh : SlI w hv c.houses) (hs : SlL w sv c.sales) (hl : c.sales.length ≤ 1000) :
    Calls Tryd.prog 33 #[valC hv sv] w (ListE P (errB (checkP c) 60) w) := by
  have HT := Lib.hid hT; have HH := Lib.hid hh; have HS := Lib.hid hs; have HL := Lib.hid hl
  obtain ⟨A, n, cp, rfl, hn, hlc, hcm⟩ := hh.form
  obtain ⟨A2, n2, cp2, rfl, hn2, hlc2, hcm2⟩ := hs.form
  have B0 := Lib.hid (show Blk (w.alloc (.cells #[.slice A n cp, .slice A2 n2 cp2] 25)) w.heap.size 25 #[.slice A n cp, .slice A2 n2 cp2] from Blk.new _ _ _)
  clear hh hs hT hl
  cases hc : checkP c with
  | false =>
    have HO := Lib.hid (hpr.2 hc)
    have HCK := Lib.hid hc
    clear hcl hpr hc
    go_enter Tryd.func33, Tryd.ntmps33
    go_wp2_with fail
    refine (opened_no c _ _ _ (HT.out.ext (Ext.al _ _)) (HH.out.ext (Ext.al _ _)) (HS.out.ext (Ext.al _ _)) HL.out HCK.out).mono ?_
    rintro e w1 ⟨rfl, hE⟩
    have E1 := Lib.hid ((Ext.al w _).trans hE); clear hE
    go_wp2
    go_ret2
    exact ⟨⟨.slice none 0 0, by rfl, by rw [HO.out]; exact Sl.nil _⟩, E1.out⟩
  | true =>
    have HPR := Lib.hid (hpr.1 hc)
    have HO := Lib.hid (hcl.1 hc)
    have HCLO := Lib.hid hcl
    have HCK := Lib.hid hc
    have HR := Lib.hid (check_right hc).1
    have HS10 := Lib.hid (check_right hc).2
    obtain ⟨π, hTop, h6⟩ := top_small HR.out HS10.out HO.out
    have HTOP := Lib.hid hTop; have H06 := Lib.hid h6
    clear hcl hc hpr hTop h6
    go_enter Tryd.func33, Tryd.ntmps33
    go_wp2_with fail
    refine (opened_yes c l _ _ _ HCLO.out (HT.out.ext (Ext.al _ _)) (HH.out.ext (Ext.al _ _)) (HS.out.ext (Ext.al _ _)) HCK.out).mono ?_
    rintro e w3 ⟨mb, gm, hv', sv', cv', rfl, hE, h1, h2, h3, h4, h5, h6'⟩
    have E3 := Lib.hid ((Ext.al w _).trans hE); have B3 := Lib.hid (B0.out.ext hE)
    have hz3 := hE.size
    rw [World.size_alloc] at hz3
    obtain ⟨N2, hN2⟩ : ∃ N2, c.sales.length = N2 := ⟨_, rfl⟩
    rw [hN2] at h3
    have HLN := Lib.hid (close_len HO.out)
    have hnN : n2 = N2 := by have := hn2.out; omega
    subst hnN
    have HN2 := Lib.hid hN2
    have hmlt := h3.lt; have hglt := h4.lt
    obtain ⟨A3, n3, cp3, rfl, -, -, -⟩ := h5.form
    have BM := Lib.hid h3; have RM := Lib.hid h4; have HH' := Lib.hid h5
    have HAB := Lib.hid (fun h => HH'.out.lt h)
    have hn6 : n ≤ 6 := by have := HR.out.h6; have := hn.out; omega
    have hn10 : n2 ≤ 10 := by have := HS10.out; omega
    have hmk := fun w => run_makeI (n := n) (by omega) w
    clear hE h3 h4 h5 h6' hN2
    have HSB := Lib.hid (fun h => HS.out.lt (w := w) h)
    obtain ⟨w4, hw4⟩ : ∃ w4, w4 = w3.alloc (.cells (intsA (List.replicate n 0)) 3) := ⟨_, rfl⟩
    have E4 := Lib.hid (show Ext w3 w4 from hw4 ▸ Ext.al _ _)
    have R4 := Lib.hid (show RowI w4 w3.heap.size (List.replicate n 0) from hw4 ▸ Blk.new _ _ _)
    have hz4 : w4.heap.size = w3.heap.size + 1 := by rw [hw4]; simp
    have hbw := B3.out.lt
    have HZ := Lib.hid (show prIt c l 0 = List.replicate n 0 by rw [prIt, hn.out])
    have x0 := B3.out.c2
    go_wp2
    simp only [← hw4]
    clear x0 hmk hw4
    refine wp_loop_ghost_k (fun g A' W => ∃ (k : Nat) (vw : Value) (lw : List Int), (k = 0 ∧ lw = [] ∧ gap (prIt c l 0) π + 1 ≤ g ∨ ∃ j, k = j + 1 ∧ lw = prIt c l j ∧ gap (prIt c l j) π ≤ g) ∧
      Fr 90 [(1, .pointer (some ⟨w.heap.size, 0, none⟩)), (4, .pointer (some ⟨mb, 0, none⟩)), (6, .slice (some ⟨w3.heap.size, 0, none⟩) n n), (7, vw)] [] A' ∧
      w4.grownBy W (some w3.heap.size) ∧ RowI W w3.heap.size (prIt c l k) ∧ Own encI 3 1 W w4.heap.size vw lw) (gap (prIt c l 0) π + 1) ?_ ?_
    · exact ⟨0, _, _, .inl ⟨rfl, rfl, Nat.le_refl _⟩, ⟨rfl, rfl, by simp [Act.eval]⟩, World.grownBy.refl _ _, by rw [HZ.out]; exact R4.out, Own.nil _ _⟩
    · rintro g A' U ⟨k, vw, lw, hk, hF, hG, hRw, hOw⟩ J K' hJ hK
      have HJ := Lib.hid hJ; have HG := Lib.hid hG; have RW := Lib.hid hRw; have OW := Lib.hid hOw; have HK := Lib.hid hk
      obtain ⟨ρ, rfl, hρ⟩ := hF.open_
      simp only [List.forall_mem_cons] at hρ
      obtain ⟨r1, r4, r6, r7, -⟩ := hρ
      simp only [lst, Nat.reduceAdd, r1, r4, r6, r7]
      clear r1 r4 r6 r7 hF hG hRw hOw hJ hk
      have HPL := Lib.hid (show (prIt c l k).length = n by rw [prIt_len]; exact hn.out.symm)
      have HSR := Lib.hid (show SlI U (.slice (some ⟨w3.heap.size, 0, none⟩) n n) (prIt c l k) from by
        have := RW.out.sl (by rw [HPL.out]; unfold maxLen; omega)
        rwa [HPL.out] at this)
      go_wp2_with fail
      refine (equal_any lw (prIt c l k) _ _ U (OW.out.sl (fun _ => rfl)) HSR.out).mono ?_
      rintro e U1 ⟨rfl, hE⟩
      have RW1 := Lib.hid (RW.out.ext hE); have OW1 := Lib.hid (OW.out.ext hE); have HG1 := Lib.hid (grown_ext HG.out hE)
      clear hE
      cases hq : decide (lw = prIt c l k) with
      | true =>
        have HQ := Lib.hid (of_decide_eq_true hq)
        clear hq
        go_wp2
        go_ret2
        have hP : IsPr c l (prIt c l k) := by
          rcases HK.out with ⟨rfl, h1, -⟩ | ⟨j, rfl, h1, -⟩
          · refine ⟨0, rfl, ?_⟩
            have h0 : (prIt c l 0) = [] := by rw [← HQ.out]; exact h1
            have h2 := prTo_len c l (prIt c l 0) c.sales.length
            rw [h0] at h2 ⊢
            exact List.eq_nil_of_length_eq_zero h2
          · have h0 : prIt c l j = prIt c l (j + 1) := by rw [← h1]; exact HQ.out
            exact ⟨j, h0, by rw [← h0]; exact h0.symm⟩
        refine ⟨⟨.slice (some ⟨w3.heap.size, 0, none⟩) n n, by rfl, ?_⟩, ext_grown (E3.out.trans E4.out) HG1.out (by omega)⟩
        rw [pr_one HPR.out hP]
        have := RW1.out.sl (by rw [HPL.out]; unfold maxLen; omega)
        rwa [HPL.out] at this
      | false =>
        have HQ := Lib.hid (of_decide_eq_false hq)
        clear hq OW OW1
        have HSR1 := Lib.hid (show SlI U1 (.slice (some ⟨w3.heap.size, 0, none⟩) n n) (prIt c l k) from by
          have := RW1.out.sl (by rw [HPL.out]; unfold maxLen; omega)
          rwa [HPL.out] at this)
        go_wp2_with fail
        refine (cloneI_any _ (prIt c l k) U1 HSR1.out (by rw [HPL.out]; omega)).mono ?_
        rintro e U2 ⟨⟨vw2, rfl, ho⟩, hE⟩
        have RW2 := Lib.hid (RW1.out.ext hE); have HG2 := Lib.hid (grown_ext HG1.out hE)
        have hzU1 := HG1.out.size
        have OW2 := Lib.hid (show Own encI 3 1 U2 w4.heap.size vw2 (prIt c l k) from ho.mono hzU1)
        have B1U := Lib.hid ((B3.out.ext E4.out).grown HG2.out (by intro e; injection e with e; omega))
        clear hE ho RW RW1 HSR HSR1 HG HG1
        have x0 := B1U.out.c2
        go_wp2
        clear x0 B1U
        obtain ⟨o, ho⟩ : ∃ o, prIt c l k = o := ⟨_, rfl⟩
        have HOI := Lib.hid ho
        have HSM := Lib.hid (show ∀ i v : Nat, 0 ≤ (prTo c l o i)[v]?.getD 0 ∧ (prTo c l o i)[v]?.getD 0 ≤ 6 from by rw [← ho]; exact pr_small HTOP.out H06.out k)
        have HOL := Lib.hid (show o.length = n by rw [← ho]; exact HPL.out)
        rw [ho] at RW2 OW2
        clear ho
        refine wp_loop_ghost_k (fun g A' W => ∃ (i : Nat), i ≤ n2 ∧ n2 - i ≤ g ∧ Fr 90 [(1, .pointer (some ⟨w.heap.size, 0, none⟩)), (4, .pointer (some ⟨mb, 0, none⟩)), (6, .slice (some ⟨w3.heap.size, 0, none⟩) n n), (7, vw2), (31, .slice A2 n2 cp2), (32, .int .i64 (n2 : Int)), (33, .int .i64 (i : Int))] [] A' ∧
          w4.grownBy W (some w3.heap.size) ∧ RowI W w3.heap.size (prTo c l o i) ∧ Own encI 3 1 W w4.heap.size vw2 o) n2 ?_ ?_
        · exact ⟨0, by omega, by omega, ⟨rfl, rfl, by simp [Act.eval]⟩, HG2.out, RW2.out, OW2.out⟩
        · rintro g2 A2' U3 ⟨i, hi, hg2, hF, hG, hRw, hOw⟩ J2 K2 hJ2 hK2
          have HJ2 := Lib.hid hJ2; have HG := Lib.hid hG; have RW := Lib.hid hRw; have OW := Lib.hid hOw
          have hzU3 := hG.size
          obtain ⟨ρ, rfl, hρ⟩ := hF.open_
          simp only [List.forall_mem_cons] at hρ
          obtain ⟨r1, r4, r6, r7, r31, r32, r33, -⟩ := hρ
          simp only [lst, Nat.reduceAdd, r1, r4, r6, r7, r31, r32, r33]
          clear r1 r4 r6 r7 r31 r32 r33 hF hG hRw hOw hJ2 RW2 OW2 HG2
          by_cases hlt : i < n2
          · have hltz : (i : Int) < (n2 : Int) := by omega
            have HSW := Lib.hid (((HS.out.ext E3.out).ext E4.out).grown HG.out fun h b o e => by have := HSB.out h b o e; omega)
            obtain ⟨b, off, x, rfl, hx, -, hcell⟩ := HSW.out.at_ hlt
            obtain ⟨c0, c1, c2, c3, c4⟩ := SlL.cells hcell (Ext.refl _)
            obtain ⟨y, hy⟩ : ∃ y, l[i]? = some y := ⟨_, List.getElem?_eq_getElem (by have := HLN.out; have := HN2.out; omega)⟩
            obtain ⟨s, bb, hsi, hbi, hsl, hbl, hne⟩ := sale_at HR.out hx
            have HST := Lib.hid (prTo_succ (o := o) hx hy)
            have hlen : (prTo c l o i).length = n := by rw [prTo_len]; exact HOL.out
            obtain ⟨x0, hx0⟩ : ∃ x0, (prTo c l o i)[s]? = some x0 := ⟨_, List.getElem?_eq_getElem (by have := hn.out; omega)⟩
            obtain ⟨y0, hy0⟩ : ∃ y0, (prTo c l o i)[bb]? = some y0 := ⟨_, List.getElem?_eq_getElem (by have := hn.out; omega)⟩
            have hx0b := HSM.out i s
            have hy0b := HSM.out i bb
            rw [hx0] at hx0b
            rw [hy0] at hy0b
            simp only [Option.getD] at hx0b hy0b
            have HX0 := Lib.hid hx0; have HY0 := Lib.hid hy0; have HSI := Lib.hid hsi; have HBI := Lib.hid hbi; have HNE := Lib.hid hne; have HY := Lib.hid hy
            have hsz : (s : Int) < (n : Int) := by have := hn.out; omega
            have hbz : (bb : Int) < (n : Int) := by have := hn.out; omega
            have hsz' : s < n := by omega
            have hbz' : bb < n := by omega
            have hkn : i < n2 := hlt
            obtain ⟨wx, hwx⟩ : ∃ wx, wx = U3.alloc (.cells #[.int .i64 x.number, .int .i64 x.seller, .int .i64 x.buyer, .int .i64 x.bales, .int .i64 x.price] 68) := ⟨_, rfl⟩
            have BX := Lib.hid (show Blk wx U3.heap.size 68 #[.int .i64 x.number, .int .i64 x.seller, .int .i64 x.buyer, .int .i64 x.bales, .int .i64 x.price] from hwx ▸ Blk.new _ _ _)
            have GX := Lib.hid (show w4.grownBy wx (some w3.heap.size) from hwx ▸ grown_ext HG.out (Ext.al _ _))
            have RX := Lib.hid (show RowI wx w3.heap.size (prTo c l o i) from hwx ▸ RW.out.alloc _)
            have OX := Lib.hid (show Own encI 3 1 wx w4.heap.size vw2 o from hwx ▸ OW.out.alloc _)
            have BMX := Lib.hid ((BM.out.ext E4.out).grown GX.out (by intro e; injection e with e; omega))
            have RMX := Lib.hid (show RowI wx gm l from Blk.grown (RM.out.ext E4.out) GX.out (by intro e; injection e with e; omega))
            have HHX := Lib.hid ((HH'.out.ext E4.out).grown GX.out fun h b o e => by have := HAB.out h b o e; omega)
            have hzx : wx.heap.size = U3.heap.size + 1 := by rw [hwx]; simp
            have m1 := fun W (h : Ext wx W) => (BX.out.ext h).c5.2.1
            have m2 := fun W (h : Ext wx W) => (BX.out.ext h).c5.2.2.1
            clear hx hy hcell hsi hbi hne hx0 hy0
            go_wp2
            simp only [← hwx]
            clear hwx c0 c1 c2 c3 c4
            refine wp_region_tame (fun W => Ext wx W) (fun W W' => Ext W W') (by kernel_rfl) 90 rfl (by decide +kernel) (Ext.refl _).drew ?_
            repeat (apply tame_q rfl; (intro ρ W hC hr hD; (obtain ⟨hrc, hrg, hrf, hrs⟩ := hr); (simp [go_sem] at hD); go_simp; first | exact ⟨⟨hC, Ext.refl _⟩, rfl⟩ | exact ⟨⟨hC, RS.refl _⟩, rfl⟩ | exact rfl); simp only [List.nil_append, List.cons_append])
            apply tame_q rfl
            · intro ρ W hC hr hD
              obtain ⟨hrc, hrg, hrf, hrs⟩ := hr
              simp [go_sem] at hD
              go_simp
              refine (mhouse_any c x.seller s mb _ _ _ _ W (BMX.out.ext hC) (HHX.out.ext hC) HSI.out).mono ?_
              rintro e w' ⟨rfl, hE⟩
              exact ⟨_, rfl, ⟨hC.trans hE, hE⟩, rfl⟩
            simp only [List.nil_append, List.cons_append]
            repeat (apply tame_q rfl; (intro ρ W hC hr hD; (obtain ⟨hrc, hrg, hrf, hrs⟩ := hr); (simp [go_sem] at hD); go_simp; first | exact ⟨⟨hC, Ext.refl _⟩, rfl⟩ | exact ⟨⟨hC, RS.refl _⟩, rfl⟩ | exact rfl); simp only [List.nil_append, List.cons_append])
            apply tame_q rfl
            · intro ρ W hC hr hD
              obtain ⟨hrc, hrg, hrf, hrs⟩ := hr
              simp [go_sem] at hD
              go_simp
              refine (mhouse_any c x.buyer bb mb _ _ _ _ W (BMX.out.ext hC) (HHX.out.ext hC) HBI.out).mono ?_
              rintro e w' ⟨rfl, hE⟩
              exact ⟨_, rfl, ⟨hC.trans hE, hE⟩, rfl⟩
            simp only [List.nil_append, List.cons_append]
            repeat (apply tame_q rfl; (intro ρ W hC hr hD; (obtain ⟨hrc, hrg, hrf, hrs⟩ := hr); (simp [go_sem] at hD); go_simp; first | exact ⟨⟨hC, Ext.refl _⟩, rfl⟩ | exact ⟨⟨hC, RS.refl _⟩, rfl⟩ | exact rfl); simp only [List.nil_append, List.cons_append])
            refine tame_end_put rfl rfl (fun ρ V hC hr hF => ?_)
            simp [go_sem] at hF
            simp only [putF, hF, List.set_cons_succ, List.set_cons_zero]
            clear hF hr
            have HC := Lib.hid hC
            clear hC
            clear m1 m2
            have B5 := Lib.hid (BX.out.ext HC.out); have R5 := Lib.hid (RX.out.ext HC.out); have M5 := Lib.hid (BMX.out.ext HC.out); have RM5 := Lib.hid (RMX.out.ext HC.out); have G5 := Lib.hid (grown_ext GX.out HC.out); have OW5 := Lib.hid (OX.out.ext HC.out)
            have hzV := HC.out.size
            clear HC BX RX BMX RMX HHX GX OX
            have hmc := M5.out.c4
            have hyc := RM5.out.cell HY.out
            have hxb1 : IntKind.i64.wrap (x0 + 1) = x0 + 1 := by rw [IntKind.wrap_i64]; omega
            have HS0 := Lib.hid (show prTo c l o (i + 1) = prD s bb (decide (y < x.bales)) (prU s bb (decide (0 < y)) (prTo c l o i)) by
              rw [HST.out]; unfold prS; rw [HSI.out, HBI.out]; rfl)
            by_cases hyp : 0 < y
            · obtain ⟨y1, hy1⟩ : ∃ y1, max y0 (x0 + 1) = y1 := ⟨_, rfl⟩
              have HPS := Lib.hid (show prTo c l o (i + 1) = prD s bb (decide (y < x.bales)) ((prTo c l o i).set bb y1) by
                rw [HS0.out, decide_eq_true hyp, prU_on HX0.out HY0.out, hy1])
              obtain ⟨o1, ho1⟩ : ∃ o1, (prTo c l o i).set bb y1 = o1 := ⟨_, rfl⟩
              rw [ho1] at HPS
              have HX1 := Lib.hid (show o1[s]? = some x0 by rw [← ho1, List.getElem?_set, if_neg (Ne.symm HNE.out)]; exact HX0.out)
              have HY1 := Lib.hid (show o1[bb]? = some y1 by rw [← ho1, List.getElem?_set, if_pos rfl, if_pos (List.getElem?_eq_some_iff.1 HY0.out).1])
              have hw1 : IntKind.i64.wrap (y1 - 1) = y1 - 1 := by rw [IntKind.wrap_i64]; omega
              have rs := fun W (h : Ext V W) => (R5.out.ext h).cell HX0.out
              have rb := fun W (h : Ext V W) => (R5.out.ext h).cell HY0.out
              go_wp2
              clear hmc hyc
              refine wp_region_tame_cut (fun W => Ext V W) (fun W W' => Ext W W') (by kernel_rfl) 90 rfl _ rfl (by decide +kernel) (by decide +kernel) (by decide +kernel) rfl (Ext.refl _).drew ?_
              simp only [List.dropLast]
              repeat (apply tame_q rfl; (intro ρ W hC hr hD; (obtain ⟨hrc, hrg, hrf, hrs⟩ := hr); (simp [go_sem] at hD); go_simp; first | exact ⟨⟨hC, Ext.refl _⟩, rfl⟩ | exact ⟨⟨hC, RS.refl _⟩, rfl⟩ | exact rfl); simp only [List.nil_append, List.cons_append])
              refine tame_end 90 rfl rfl (fun ρ V4 hC hr hF => ?_)
              obtain ⟨hrc, hrg, hrf, hrs⟩ := hr
              simp [go_sem] at hF
              apply frame_to
              · go_simp
                exact rfl
              clear hF hrs hrc hrg hrf
              have HC := Lib.hid hC
              clear hC
              clear rs rb
              replace B5 := Lib.hid (B5.out.ext HC.out); replace R5 := Lib.hid (R5.out.ext HC.out); replace M5 := Lib.hid (M5.out.ext HC.out); replace RM5 := Lib.hid (RM5.out.ext HC.out); replace G5 := Lib.hid (grown_ext G5.out HC.out); replace OW5 := Lib.hid (OW5.out.ext HC.out)
              have hzV4 := HC.out.size
              clear HC
              obtain ⟨V5, hV5⟩ : ∃ V5, V5 = V4.setCell ⟨w3.heap.size, bb, none⟩ (.int .i64 y1) := ⟨_, rfl⟩
              have GS := Lib.hid (show V4.grownBy V5 (some w3.heap.size) from hV5 ▸ grown_set (World.grownBy.refl _ _) (p := ⟨w3.heap.size, bb, none⟩) (.inl rfl) _)
              have R5' := Lib.hid (show RowI V5 w3.heap.size o1 from hV5 ▸ ho1 ▸ R5.out.set bb y1)
              replace B5 := Lib.hid (B5.out.grown GS.out (by intro e; injection e with e; omega)); replace M5 := Lib.hid (M5.out.grown GS.out (by intro e; injection e with e; omega))
              replace RM5 := Lib.hid (show RowI V5 gm l from Blk.grown RM5.out GS.out (by intro e; injection e with e; omega)); replace G5 := Lib.hid (grown_tr G5.out GS.out)
              replace OW5 := Lib.hid (show Own encI 3 1 V5 w4.heap.size vw2 o from own_kept OW5.out GS.out (by omega))
              have rf := R5.out.frozen
              have rl := R5.out.lt
              have rc := R5.out.cell HY0.out
              simp only [hy1]
              go_wp2
              simp only [← hV5]
              clear rf rl rc hV5 R5 ho1 hy1
              have R5 := R5'
              obtain ⟨x1, hx1⟩ : ∃ x1, x1 = x0 := ⟨_, rfl⟩
              rw [← hx1] at HX1
              clear hx1 R5'
              have m3 := fun W (h : Ext V5 W) => (B5.out.ext h).c5.2.2.2.1
              have mm := fun W (h : Ext V5 W) => (M5.out.ext h).c4
              have my := fun W (h : Ext V5 W) => (RM5.out.ext h).cell HY.out
              by_cases hyx : y < x.bales
              · have HSD := Lib.hid (show prTo c l o (i + 1) = o1.set s (max x1 (y1 - 1)) by rw [HPS.out, decide_eq_true hyx]; exact prD_on HX1.out HY1.out)
                refine wp_region_tame (fun W => Ext V5 W) (fun W W' => Ext W W') (by kernel_rfl) 90 rfl (by decide +kernel) (Ext.refl _).drew ?_
                repeat (apply tame_q rfl; (intro ρ W hC hr hD; (obtain ⟨hrc, hrg, hrf, hrs⟩ := hr); (simp [go_sem] at hD); go_simp; first | exact ⟨⟨hC, Ext.refl _⟩, rfl⟩ | exact ⟨⟨hC, RS.refl _⟩, rfl⟩ | exact rfl); simp only [List.nil_append, List.cons_append])
                refine tame_end_put rfl rfl (fun ρ V6 hC hr hF => ?_)
                simp [go_sem] at hF
                simp only [putF, hF, List.set_cons_succ, List.set_cons_zero]
                clear hF hr
                have HC := Lib.hid hC
                clear hC
                clear m3 mm my
                have R6 := Lib.hid (R5.out.ext HC.out); have G6 := Lib.hid (grown_ext G5.out HC.out); have OW6 := Lib.hid (OW5.out.ext HC.out)
                clear HC
                have rs := fun W (h : Ext V6 W) => (R6.out.ext h).cell HX1.out
                have rb := fun W (h : Ext V6 W) => (R6.out.ext h).cell HY1.out
                go_wp2
                refine wp_region_tame_cut (fun W => Ext V6 W) (fun W W' => Ext W W') (by kernel_rfl) 90 rfl _ rfl (by decide +kernel) (by decide +kernel) (by decide +kernel) rfl (Ext.refl _).drew ?_
                simp only [List.dropLast]
                repeat (apply tame_q rfl; (intro ρ W hC hr hD; (obtain ⟨hrc, hrg, hrf, hrs⟩ := hr); (simp [go_sem] at hD); go_simp; first | exact ⟨⟨hC, Ext.refl _⟩, rfl⟩ | exact ⟨⟨hC, RS.refl _⟩, rfl⟩ | exact rfl); simp only [List.nil_append, List.cons_append])
                refine tame_end 90 rfl rfl (fun ρ V7 hC hr hF => ?_)
                obtain ⟨hrc, hrg, hrf, hrs⟩ := hr
                simp [go_sem] at hF
                apply frame_to
                · go_simp
                  exact rfl
                clear hF hrs hrc hrg hrf
                have HC := Lib.hid hC
                clear hC
                clear rs rb
                have R7 := Lib.hid (R6.out.ext HC.out); have G7 := Lib.hid (grown_ext G6.out HC.out); have OW7 := Lib.hid (OW6.out.ext HC.out)
                clear HC
                have rs := R7.out.cell HX1.out
                have rf := R7.out.frozen
                have rl := R7.out.lt
                go_wp2
                exact Handed.intro (n2 - (i + 1)) (by omega) (HJ2.out _ _ _ ⟨i + 1, by omega, Nat.le_refl _, ⟨rfl, rfl, by simp [Act.eval]⟩, grown_set G7.out (p := ⟨w3.heap.size, s, none⟩) (.inl rfl) _, by rw [HSD.out]; exact R7.out.set s _, own_kept (g := w3.heap.size) OW7.out (grown_set (World.grownBy.refl _ _) (p := ⟨w3.heap.size, s, none⟩) (.inl rfl) _) (by omega)⟩)
              · have HSD := Lib.hid (show prTo c l o (i + 1) = o1 by rw [HPS.out, decide_eq_false hyx]; exact prD_off)
                refine wp_region_tame (fun W => Ext V5 W) (fun W W' => Ext W W') (by kernel_rfl) 90 rfl (by decide +kernel) (Ext.refl _).drew ?_
                repeat (apply tame_q rfl; (intro ρ W hC hr hD; (obtain ⟨hrc, hrg, hrf, hrs⟩ := hr); (simp [go_sem] at hD); go_simp; first | exact ⟨⟨hC, Ext.refl _⟩, rfl⟩ | exact ⟨⟨hC, RS.refl _⟩, rfl⟩ | exact rfl); simp only [List.nil_append, List.cons_append])
                refine tame_end_put rfl rfl (fun ρ V6 hC hr hF => ?_)
                simp [go_sem] at hF
                simp only [putF, hF, List.set_cons_succ, List.set_cons_zero]
                clear hF hr
                have HC := Lib.hid hC
                clear hC
                clear m3 mm my
                have R6 := Lib.hid (R5.out.ext HC.out); have G6 := Lib.hid (grown_ext G5.out HC.out); have OW6 := Lib.hid (OW5.out.ext HC.out)
                clear HC
                go_wp2
                exact Handed.intro (n2 - (i + 1)) (by omega) (HJ2.out _ _ _ ⟨i + 1, by omega, Nat.le_refl _, ⟨rfl, rfl, by simp [Act.eval]⟩, G6.out, by rw [HSD.out]; exact R6.out, OW6.out⟩)
            · have HPS := Lib.hid (show prTo c l o (i + 1) = prD s bb (decide (y < x.bales)) (prTo c l o i) by
                rw [HS0.out, decide_eq_false hyp, prU_off])
              obtain ⟨o1, ho1⟩ : ∃ o1, prTo c l o i = o1 := ⟨_, rfl⟩
              rw [ho1] at HPS R5 HX0 HY0
              obtain ⟨x1, hx1⟩ : ∃ x1, x1 = x0 := ⟨_, rfl⟩
              obtain ⟨y1, hy1⟩ : ∃ y1, y1 = y0 := ⟨_, rfl⟩
              have hw1 : IntKind.i64.wrap (y1 - 1) = y1 - 1 := by rw [IntKind.wrap_i64]; omega
              have HX1 := Lib.hid (show o1[s]? = some x1 by rw [hx1]; exact HX0.out)
              have HY1 := Lib.hid (show o1[bb]? = some y1 by rw [hy1]; exact HY0.out)
              clear hx1 hy1 ho1
              go_wp2
              clear hmc hyc
              have m3 := fun W (h : Ext V W) => (B5.out.ext h).c5.2.2.2.1
              have mm := fun W (h : Ext V W) => (M5.out.ext h).c4
              have my := fun W (h : Ext V W) => (RM5.out.ext h).cell HY.out
              by_cases hyx : y < x.bales
              · have HSD := Lib.hid (show prTo c l o (i + 1) = o1.set s (max x1 (y1 - 1)) by rw [HPS.out, decide_eq_true hyx]; exact prD_on HX1.out HY1.out)
                refine wp_region_tame (fun W => Ext V W) (fun W W' => Ext W W') (by kernel_rfl) 90 rfl (by decide +kernel) (Ext.refl _).drew ?_
                repeat (apply tame_q rfl; (intro ρ W hC hr hD; (obtain ⟨hrc, hrg, hrf, hrs⟩ := hr); (simp [go_sem] at hD); go_simp; first | exact ⟨⟨hC, Ext.refl _⟩, rfl⟩ | exact ⟨⟨hC, RS.refl _⟩, rfl⟩ | exact rfl); simp only [List.nil_append, List.cons_append])
                refine tame_end_put rfl rfl (fun ρ V6 hC hr hF => ?_)
                simp [go_sem] at hF
                simp only [putF, hF, List.set_cons_succ, List.set_cons_zero]
                clear hF hr
                have HC := Lib.hid hC
                clear hC
                clear m3 mm my
                have R6 := Lib.hid (R5.out.ext HC.out); have G6 := Lib.hid (grown_ext G5.out HC.out); have OW6 := Lib.hid (OW5.out.ext HC.out)
                clear HC
                have rs := fun W (h : Ext V6 W) => (R6.out.ext h).cell HX1.out
                have rb := fun W (h : Ext V6 W) => (R6.out.ext h).cell HY1.out
                go_wp2
                refine wp_region_tame_cut (fun W => Ext V6 W) (fun W W' => Ext W W') (by kernel_rfl) 90 rfl _ rfl (by decide +kernel) (by decide +kernel) (by decide +kernel) rfl (Ext.refl _).drew ?_
                simp only [List.dropLast]
                repeat (apply tame_q rfl; (intro ρ W hC hr hD; (obtain ⟨hrc, hrg, hrf, hrs⟩ := hr); (simp [go_sem] at hD); go_simp; first | exact ⟨⟨hC, Ext.refl _⟩, rfl⟩ | exact ⟨⟨hC, RS.refl _⟩, rfl⟩ | exact rfl); simp only [List.nil_append, List.cons_append])
                refine tame_end 90 rfl rfl (fun ρ V7 hC hr hF => ?_)
                obtain ⟨hrc, hrg, hrf, hrs⟩ := hr
                simp [go_sem] at hF
                apply frame_to
                · go_simp
                  exact rfl
                clear hF hrs hrc hrg hrf
                have HC := Lib.hid hC
                clear hC
                clear rs rb
                have R7 := Lib.hid (R6.out.ext HC.out); have G7 := Lib.hid (grown_ext G6.out HC.out); have OW7 := Lib.hid (OW6.out.ext HC.out)
                clear HC
                have rs := R7.out.cell HX1.out
                have rf := R7.out.frozen
                have rl := R7.out.lt
                go_wp2
                exact Handed.intro (n2 - (i + 1)) (by omega) (HJ2.out _ _ _ ⟨i + 1, by omega, Nat.le_refl _, ⟨rfl, rfl, by simp [Act.eval]⟩, grown_set G7.out (p := ⟨w3.heap.size, s, none⟩) (.inl rfl) _, by rw [HSD.out]; exact R7.out.set s _, own_kept (g := w3.heap.size) OW7.out (grown_set (World.grownBy.refl _ _) (p := ⟨w3.heap.size, s, none⟩) (.inl rfl) _) (by omega)⟩)
              · have HSD := Lib.hid (show prTo c l o (i + 1) = o1 by rw [HPS.out, decide_eq_false hyx]; exact prD_off)
                refine wp_region_tame (fun W => Ext V W) (fun W W' => Ext W W') (by kernel_rfl) 90 rfl (by decide +kernel) (Ext.refl _).drew ?_
                repeat (apply tame_q rfl; (intro ρ W hC hr hD; (obtain ⟨hrc, hrg, hrf, hrs⟩ := hr); (simp [go_sem] at hD); go_simp; first | exact ⟨⟨hC, Ext.refl _⟩, rfl⟩ | exact ⟨⟨hC, RS.refl _⟩, rfl⟩ | exact rfl); simp only [List.nil_append, List.cons_append])
                refine tame_end_put rfl rfl (fun ρ V6 hC hr hF => ?_)
                simp [go_sem] at hF
                simp only [putF, hF, List.set_cons_succ, List.set_cons_zero]
                clear hF hr
                have HC := Lib.hid hC
                clear hC
                clear m3 mm my
                have R6 := Lib.hid (R5.out.ext HC.out); have G6 := Lib.hid (grown_ext G5.out HC.out); have OW6 := Lib.hid (OW5.out.ext HC.out)
                clear HC
                go_wp2
                exact Handed.intro (n2 - (i + 1)) (by omega) (HJ2.out _ _ _ ⟨i + 1, by omega, Nat.le_refl _, ⟨rfl, rfl, by simp [Act.eval]⟩, G6.out, by rw [HSD.out]; exact R6.out, OW6.out⟩)
          · have HE := Lib.hid (show i = n2 by omega)
            go_wp2
            have hrw := RW.out
            rw [show prTo c l o i = prIt c l (k + 1) by rw [prIt, HOI.out, prPass]; congr 1; have := HE.out; have := HN2.out; omega] at hrw
            have hgap : gap o π < g := by
              rcases HK.out with ⟨rfl, -, h1⟩ | ⟨j, rfl, h1, h2⟩
              · rw [← HOI.out]; omega
              · have h3 : prPass c l (prIt c l j) ≠ prIt c l j := fun e => HQ.out (by rw [h1]; exact e.symm)
                have h4 := pr_step HTOP.out (fun v => (H06.out v).1) j h3
                rw [← HOI.out]; omega
            exact Handed.intro (gap o π) hgap (HJ.out _ _ _ ⟨k + 1, vw2, o, .inr ⟨k, rfl, HOI.out.symm, Nat.le_of_eq (by rw [HOI.out])⟩, ⟨rfl, rfl, by simp [Act.eval]⟩, HG.out, hrw, OW.out⟩)
end Go.Proofs.YtafdbgielmlihaaDoor
/- Proof: the reference's. -/
namespace Go.Proofs.YtafdbgielmlihaaDoor
open Go.RowKit Go.Shelf Go.Lib
set_option maxRecDepth 100000
set_option linter.unusedSimpArgs false

theorem LeL.anti {a b : List Int} (h : LeL a b) (k : LeL b a) (hl : a.length = b.length) : a = b := by
  apply List.ext_getElem hl
  intro i h1 h2
  have e1 := h i; have e2 := k i
  rw [List.getElem?_eq_getElem h1, List.getElem?_eq_getElem h2] at e1 e2
  simp only [Option.getD] at e1 e2
  omega
theorem chg {o o1 o2 : List Int} (h1 : LeL o o1) (h2 : LeL o1 o2) (hl : o2.length = o1.length) (hne : o1 ≠ o2) : decide (o2 = o) = false :=
  decide_eq_false fun e => hne (LeL.anti h2 (by rw [e]; exact h1) hl.symm)
theorem set_ne {o : List Int} {s : Nat} {x z : Int} (h : o[s]? = some x) (hne : x ≠ z) : o ≠ o.set s z := fun e => by
  have h1 : (o.set s z)[s]? = some z := by rw [List.getElem?_set, if_pos rfl, if_pos (List.getElem?_eq_some_iff.1 h).1]
  rw [← e, h] at h1
  injection h1 with h1
  exact hne h1
theorem prU_yes {o : List Int} {s b : Nat} {x y : Int} (hs : o[s]? = some x) (hb : o[b]? = some y) (h : y ≤ x) : prU s b true o = o.set b (x + 1) := by
  rw [prU_on hs hb, show max y (x + 1) = x + 1 by omega]
theorem prU_no {o : List Int} {s b : Nat} {x y : Int} (hs : o[s]? = some x) (hb : o[b]? = some y) (h : ¬ y ≤ x) : prU s b true o = o := by
  rw [prU_on hs hb, show max y (x + 1) = y by omega]
  exact set_same hb
theorem prD_yes {o : List Int} {s b : Nat} {x y : Int} (hs : o[s]? = some x) (hb : o[b]? = some y) (h : x + 1 < y) : prD s b true o = o.set s (y - 1) := by
  rw [prD_on hs hb, show max x (y - 1) = y - 1 by omega]
theorem prD_no {o : List Int} {s b : Nat} {x y : Int} (hs : o[s]? = some x) (hb : o[b]? = some y) (h : ¬ x + 1 < y) : prD s b true o = o := by
  rw [prD_on hs hb, show max x (y - 1) = x by omega]
  exact set_same hs
set_option maxHeartbeats 8000000 in
theorem refProof_any (c : Chn) (l P : List Int) (hv sv : Value) (w : World) (hcl : CloseOf c l) (hpr : ProofOf c l P) (hh : SlI w hv c.houses) (hs : SlL w sv c.sales) :
    Calls Tryd.prog 34 #[valC hv sv] w (ListE P (errB (checkP c) 60) w) := by
  have HH := Lib.hid hh; have HS := Lib.hid hs
  obtain ⟨A, n, cp, rfl, hn, hlc, hcm⟩ := hh.form
  obtain ⟨A2, n2, cp2, rfl, hn2, hlc2, hcm2⟩ := hs.form
  have B0 := Lib.hid (show Blk (w.alloc (.cells #[.slice A n cp, .slice A2 n2 cp2] 25)) w.heap.size 25 #[.slice A n cp, .slice A2 n2 cp2] from Blk.new _ _ _)
  clear hh hs
  go_enter Tryd.func34, Tryd.ntmps34
  go_wp2_with fail
  refine (refChain_any c _ _ _ (HH.out.ext (Ext.al _ _)) (HS.out.ext (Ext.al _ _))).mono ?_
  rintro e w1 ⟨rfl, hE⟩
  have E1 := Lib.hid ((Ext.al w _).trans hE); have B1 := Lib.hid (B0.out.ext hE)
  clear hE
  cases hc : checkP c with
  | false =>
    have HO := Lib.hid (hpr.2 hc)
    have HCK := Lib.hid hc
    clear hcl hpr hc
    go_wp2
    go_ret2
    exact ⟨⟨.slice none 0 0, by rw [HCK.out]; rfl, by rw [HO.out]; exact Sl.nil _⟩, E1.out⟩
  | true =>
    have HPR := Lib.hid (hpr.1 hc)
    have HCK := Lib.hid hc
    have HO := Lib.hid (hcl.1 hc)
    have HR := Lib.hid (check_right hc).1
    have HS10 := Lib.hid (check_right hc).2
    obtain ⟨π, hTop, h6⟩ := top_small HR.out HS10.out HO.out
    have HTOP := Lib.hid hTop; have H06 := Lib.hid h6
    clear hcl hc hpr hTop h6
    have x0 := B1.out.c2
    have hz1 := E1.out.size
    go_wp2_with fail
    clear x0
    refine (refclosing_any c l _ _ _ HO.out HR.out (by have := HS10.out; omega) (HH.out.ext E1.out) (HS.out.ext E1.out)).mono ?_
    rintro e w3 ⟨⟨v, rfl, hv⟩, hE⟩
    have E3 := Lib.hid (E1.out.trans hE); have B3 := Lib.hid (B1.out.ext hE)
    have hz3 := hE.size
    obtain ⟨N2, hN2⟩ : ∃ N2, c.sales.length = N2 := ⟨_, rfl⟩
    have HLN := Lib.hid (close_len HO.out)
    have hnN : n2 = N2 := by have := hn2.out; omega
    subst hnN
    have HN2 := Lib.hid hN2
    obtain ⟨A3, n3, cp3, rfl, hn3, -, -⟩ := hv.form
    have hn3e : n3 = n2 := by have := hn3.out; have := HLN.out; omega
    subst hn3e
    have HMV := Lib.hid hv
    have HMB3 := Lib.hid (fun h => HMV.out.lt h)
    have HAB := Lib.hid (fun h => HH.out.lt (w := w) h)
    have HSB := Lib.hid (fun h => HS.out.lt (w := w) h)
    have hn6 : n ≤ 6 := by have := HR.out.h6; have := hn.out; omega
    have hn10 : n3 ≤ 10 := by have := HS10.out; omega
    have hmk := fun w => run_makeI (n := n) (by omega) w
    clear hE hv hN2
    obtain ⟨w4, hw4⟩ : ∃ w4, w4 = w3.alloc (.cells (intsA (List.replicate n 0)) 3) := ⟨_, rfl⟩
    have E4 := Lib.hid (show Ext w3 w4 from hw4 ▸ Ext.al _ _)
    have R4 := Lib.hid (show RowI w4 w3.heap.size (List.replicate n 0) from hw4 ▸ Blk.new _ _ _)
    have hz4 : w4.heap.size = w3.heap.size + 1 := by rw [hw4]; simp
    have hbw := B3.out.lt
    have HZ := Lib.hid (show prIt c l 0 = List.replicate n 0 by rw [prIt, hn.out])
    have x0 := B3.out.c2
    go_wp2
    simp only [← hw4]
    clear x0 hmk hw4
    refine wp_loop_ghost_k (fun g A' W => ∃ (k : Nat) (fl : Bool), (k = 0 ∧ fl = true ∧ gap (prIt c l 0) π + 1 ≤ g ∨ ∃ j, k = j + 1 ∧ fl = !decide (prIt c l (j + 1) = prIt c l j) ∧ gap (prIt c l j) π ≤ g) ∧
      Fr 90 [(1, .pointer (some ⟨w.heap.size, 0, none⟩)), (4, .slice A3 n3 cp3), (5, .slice (some ⟨w3.heap.size, 0, none⟩) n n), (6, .bool fl)] [] A' ∧
      w4.grownBy W (some w3.heap.size) ∧ RowI W w3.heap.size (prIt c l k)) (gap (prIt c l 0) π + 1) ?_ ?_
    · exact ⟨0, true, .inl ⟨rfl, rfl, Nat.le_refl _⟩, ⟨rfl, rfl, by simp [Act.eval]⟩, World.grownBy.refl _ _, by rw [HZ.out]; exact R4.out⟩
    · rintro g A' U ⟨k, fl, hk, hF, hG, hRw⟩ J K' hJ hK
      have HJ := Lib.hid hJ; have HG2 := Lib.hid hG; have RW2 := Lib.hid hRw; have HK := Lib.hid hk
      obtain ⟨ρ, rfl, hρ⟩ := hF.open_
      simp only [List.forall_mem_cons] at hρ
      obtain ⟨r1, r4, r5, r6, -⟩ := hρ
      simp only [lst, Nat.reduceAdd, r1, r4, r5, r6]
      clear r1 r4 r5 r6 hF hG hRw hJ hk
      have HPL := Lib.hid (show (prIt c l k).length = n by rw [prIt_len]; exact hn.out.symm)
      cases fl with
      | false =>
        go_wp2
        go_ret2
        have hP : IsPr c l (prIt c l k) := by
          rcases HK.out with ⟨-, h1, -⟩ | ⟨j, rfl, h1, -⟩
          · cases h1
          · have h0 : prIt c l (j + 1) = prIt c l j := by simpa using h1
            exact ⟨j, h0.symm, by rw [h0]; exact h0⟩
        refine ⟨⟨.slice (some ⟨w3.heap.size, 0, none⟩) n n, by rw [HCK.out]; rfl, ?_⟩, ext_grown (E3.out.trans E4.out) HG2.out (by omega)⟩
        rw [pr_one HPR.out hP]
        have := RW2.out.sl (by rw [HPL.out]; unfold maxLen; omega)
        rwa [HPL.out] at this
      | true =>
        have B1U := Lib.hid ((B3.out.ext E4.out).grown HG2.out (by intro e; injection e with e; omega))
        have x0 := B1U.out.c2
        go_wp2
        clear x0 B1U
        obtain ⟨o, ho⟩ : ∃ o, prIt c l k = o := ⟨_, rfl⟩
        have HOI := Lib.hid ho
        have HSM := Lib.hid (show ∀ i v : Nat, 0 ≤ (prTo c l o i)[v]?.getD 0 ∧ (prTo c l o i)[v]?.getD 0 ≤ 6 from by rw [← ho]; exact pr_small HTOP.out H06.out k)
        have HOL := Lib.hid (show o.length = n by rw [← ho]; exact HPL.out)
        rw [ho] at RW2
        clear ho
        refine wp_loop_ghost_k (fun g A' W => ∃ (i : Nat), i ≤ n3 ∧ n3 - i ≤ g ∧ Fr 90 [(1, .pointer (some ⟨w.heap.size, 0, none⟩)), (4, .slice A3 n3 cp3), (5, .slice (some ⟨w3.heap.size, 0, none⟩) n n), (6, .bool (!decide (prTo c l o i = o))), (22, .slice A2 n3 cp2), (23, .int .i64 (n3 : Int)), (24, .int .i64 (i : Int))] [] A' ∧
          w4.grownBy W (some w3.heap.size) ∧ RowI W w3.heap.size (prTo c l o i)) n3 ?_ ?_
        · exact ⟨0, by omega, by omega, ⟨rfl, rfl, by simp [Act.eval, prTo]⟩, HG2.out, RW2.out⟩
        · rintro g2 A2' U3 ⟨i, hi, hg2, hF, hG, hRw⟩ J2 K2 hJ2 hK2
          have HJ2 := Lib.hid hJ2; have HG := Lib.hid hG; have RW := Lib.hid hRw
          have hzU3 := hG.size
          obtain ⟨f0, hf0⟩ : ∃ f0, (!decide (prTo c l o i = o)) = f0 := ⟨_, rfl⟩
          rw [hf0] at hF
          have HF0 := Lib.hid hf0
          clear hf0
          obtain ⟨ρ, rfl, hρ⟩ := hF.open_
          simp only [List.forall_mem_cons] at hρ
          obtain ⟨r1, r4, r5, r6, r22, r23, r24, -⟩ := hρ
          simp only [lst, Nat.reduceAdd, r1, r4, r5, r6, r22, r23, r24]
          clear r1 r4 r5 r6 r22 r23 r24 hF hG hRw hJ2 RW2 HG2
          by_cases hlt : i < n3
          · have hltz : (i : Int) < (n3 : Int) := by omega
            have HSW := Lib.hid (((HS.out.ext E3.out).ext E4.out).grown HG.out fun h b o e => by have := HSB.out h b o e; omega)
            obtain ⟨b, off, x, rfl, hx, -, hcell⟩ := HSW.out.at_ hlt
            obtain ⟨c0, c1, c2, c3, c4⟩ := SlL.cells hcell (Ext.refl _)
            obtain ⟨y, hy⟩ : ∃ y, l[i]? = some y := ⟨_, List.getElem?_eq_getElem (by have := HLN.out; have := HN2.out; omega)⟩
            obtain ⟨s, bb, hsi, hbi, hsl, hbl, hne⟩ := sale_at HR.out hx
            have HST := Lib.hid (prTo_succ (o := o) hx hy)
            have hlen : (prTo c l o i).length = n := by rw [prTo_len]; exact HOL.out
            obtain ⟨x0, hx0⟩ : ∃ x0, (prTo c l o i)[s]? = some x0 := ⟨_, List.getElem?_eq_getElem (by have := hn.out; omega)⟩
            obtain ⟨y0, hy0⟩ : ∃ y0, (prTo c l o i)[bb]? = some y0 := ⟨_, List.getElem?_eq_getElem (by have := hn.out; omega)⟩
            have hx0b := HSM.out i s
            have hy0b := HSM.out i bb
            rw [hx0] at hx0b
            rw [hy0] at hy0b
            simp only [Option.getD] at hx0b hy0b
            have HYV := Lib.hid hy; have HX0 := Lib.hid hx0; have HY0 := Lib.hid hy0; have HSI := Lib.hid hsi; have HBI := Lib.hid hbi; have HNE := Lib.hid hne
            have hsz : (s : Int) < (n : Int) := by have := hn.out; omega
            have hbz : (bb : Int) < (n : Int) := by have := hn.out; omega
            have hsz' : s < n := by omega
            have hbz' : bb < n := by omega
            have hkn : i < n3 := hlt
            obtain ⟨wx, hwx⟩ : ∃ wx, wx = U3.alloc (.cells #[.int .i64 x.number, .int .i64 x.seller, .int .i64 x.buyer, .int .i64 x.bales, .int .i64 x.price] 68) := ⟨_, rfl⟩
            have BX := Lib.hid (show Blk wx U3.heap.size 68 #[.int .i64 x.number, .int .i64 x.seller, .int .i64 x.buyer, .int .i64 x.bales, .int .i64 x.price] from hwx ▸ Blk.new _ _ _)
            have GX := Lib.hid (show w4.grownBy wx (some w3.heap.size) from hwx ▸ grown_ext HG.out (Ext.al _ _))
            have RX := Lib.hid (show RowI wx w3.heap.size (prTo c l o i) from hwx ▸ RW.out.alloc _)
            have BCX := Lib.hid ((B3.out.ext E4.out).grown GX.out (by intro e; injection e with e; omega))
            have HMX := Lib.hid ((HMV.out.ext E4.out).grown GX.out fun h b o e => by have := HMB3.out h b o e; omega)
            have HHX := Lib.hid (((HH.out.ext E3.out).ext E4.out).grown GX.out fun h b o e => by have := HAB.out h b o e; omega)
            have HSX := Lib.hid (((HS.out.ext E3.out).ext E4.out).grown GX.out fun h b o e => by have := HSB.out h b o e; omega)
            obtain ⟨b9, off9, y', e9, hy', -, hycell0⟩ := HMX.out.at_ hlt
            rw [hy] at hy'
            injection hy' with hy'
            subst hy'
            subst e9
            have hzx : wx.heap.size = U3.heap.size + 1 := by rw [hwx]; simp
            have m1 := fun W (h : Ext wx W) => (BX.out.ext h).c5.2.1
            have m2 := fun W (h : Ext wx W) => (BX.out.ext h).c5.2.2.1
            have mc := fun W (h : Ext wx W) => (BCX.out.ext h).c2
            clear hx hy hcell hsi hbi hne hx0 hy0
            go_wp2
            simp only [← hwx]
            clear hwx c0 c1 c2 c3 c4
            refine wp_region_tame (fun W => Ext wx W) (fun W W' => Ext W W') (by kernel_rfl) 90 rfl (by decide +kernel) (Ext.refl _).drew ?_
            repeat (apply tame_q rfl; (intro ρ W hC hr hD; (obtain ⟨hrc, hrg, hrf, hrs⟩ := hr); (simp [go_sem] at hD); go_simp; first | exact ⟨⟨hC, Ext.refl _⟩, rfl⟩ | exact ⟨⟨hC, RS.refl _⟩, rfl⟩ | exact rfl); simp only [List.nil_append, List.cons_append])
            apply tame_q rfl
            · intro ρ W hC hr hD
              obtain ⟨hrc, hrg, hrf, hrs⟩ := hr
              simp [go_sem] at hD
              go_simp
              refine (house_at c x.seller s _ _ W (HHX.out.ext hC) (HSX.out.ext hC) HSI.out).mono ?_
              rintro e w' ⟨rfl, hE⟩
              exact ⟨_, rfl, ⟨hC.trans hE, hE⟩, rfl⟩
            simp only [List.nil_append, List.cons_append]
            repeat (apply tame_q rfl; (intro ρ W hC hr hD; (obtain ⟨hrc, hrg, hrf, hrs⟩ := hr); (simp [go_sem] at hD); go_simp; first | exact ⟨⟨hC, Ext.refl _⟩, rfl⟩ | exact ⟨⟨hC, RS.refl _⟩, rfl⟩ | exact rfl); simp only [List.nil_append, List.cons_append])
            apply tame_q rfl
            · intro ρ W hC hr hD
              obtain ⟨hrc, hrg, hrf, hrs⟩ := hr
              simp [go_sem] at hD
              go_simp
              refine (house_at c x.buyer bb _ _ W (HHX.out.ext hC) (HSX.out.ext hC) HBI.out).mono ?_
              rintro e w' ⟨rfl, hE⟩
              exact ⟨_, rfl, ⟨hC.trans hE, hE⟩, rfl⟩
            simp only [List.nil_append, List.cons_append]
            repeat (apply tame_q rfl; (intro ρ W hC hr hD; (obtain ⟨hrc, hrg, hrf, hrs⟩ := hr); (simp [go_sem] at hD); go_simp; first | exact ⟨⟨hC, Ext.refl _⟩, rfl⟩ | exact ⟨⟨hC, RS.refl _⟩, rfl⟩ | exact rfl); simp only [List.nil_append, List.cons_append])
            refine tame_end_put rfl rfl (fun ρ V hC hr hF => ?_)
            simp [go_sem] at hF
            simp only [putF, hF, List.set_cons_succ, List.set_cons_zero]
            clear hF hr
            have HC := Lib.hid hC
            clear hC
            clear m1 m2 mc
            have B5 := Lib.hid (BX.out.ext HC.out); have R5 := Lib.hid (RX.out.ext HC.out); have G5 := Lib.hid (grown_ext GX.out HC.out)
            have hzV := HC.out.size
            have E5 := Lib.hid HC.out
            clear HC BX RX GX BCX HMX HHX HSX
            have hycell := hycell0
            have hxb1 : IntKind.i64.wrap (x0 + 1) = x0 + 1 := by rw [IntKind.wrap_i64]; omega
            have HS0 := Lib.hid (show prTo c l o (i + 1) = prD s bb (decide (y < x.bales)) (prU s bb (decide (0 < y)) (prTo c l o i)) by
              rw [HST.out]; unfold prS; rw [HSI.out, HBI.out]; rfl)
            have HUP := Lib.hid (prTo_up c l o i)
            have my := fun W (h : Ext V W) => SlI.cell hycell (E5.out.trans h)
            have rs := fun W (h : Ext V W) => (R5.out.ext h).cell HX0.out
            have rb := fun W (h : Ext V W) => (R5.out.ext h).cell HY0.out
            have m3 := 0
            by_cases hyp : 0 < y
            · by_cases hyx0 : y0 ≤ x0
              · have HPS := Lib.hid (show prTo c l o (i + 1) = prD s bb (decide (y < x.bales)) ((prTo c l o i).set bb (x0 + 1)) by
                  rw [HS0.out, decide_eq_true hyp, prU_yes HX0.out HY0.out hyx0])
                have HLE := Lib.hid (show LeL o ((prTo c l o i).set bb (x0 + 1)) by
                  have := HUP.out.trans (prU_up s bb true (prTo c l o i))
                  rwa [prU_yes HX0.out HY0.out hyx0] at this)
                have HFL := Lib.hid (show (!decide ((prTo c l o i).set bb (x0 + 1) = o)) = true by
                  have h1 := prU_up s bb true (prTo c l o i)
                  rw [prU_yes HX0.out HY0.out hyx0] at h1
                  rw [chg HUP.out h1 (by rw [List.length_set]) (set_ne HY0.out (by omega))]; rfl)
                obtain ⟨o1, ho1⟩ : ∃ o1, (prTo c l o i).set bb (x0 + 1) = o1 := ⟨_, rfl⟩
                rw [ho1] at HPS HLE HFL
                obtain ⟨y1, hy1⟩ : ∃ y1, y1 = x0 + 1 := ⟨_, rfl⟩
                obtain ⟨x1, hx1⟩ : ∃ x1, x1 = x0 := ⟨_, rfl⟩
                have HX1 := Lib.hid (show o1[s]? = some x1 by rw [hx1, ← ho1, List.getElem?_set, if_neg (Ne.symm HNE.out)]; exact HX0.out)
                have HY1 := Lib.hid (show o1[bb]? = some y1 by rw [hy1, ← ho1, List.getElem?_set, if_pos rfl, if_pos (List.getElem?_eq_some_iff.1 HY0.out).1])
                have hw1 : IntKind.i64.wrap (y1 - 1) = y1 - 1 := by rw [IntKind.wrap_i64]; omega
                have hw2 : IntKind.i64.wrap (x1 + 1) = x1 + 1 := by rw [IntKind.wrap_i64]; omega
                go_wp2
                refine wp_region_tame (fun W => Ext V W) (fun W W' => Ext W W') (by kernel_rfl) 90 rfl (by decide +kernel) (Ext.refl _).drew ?_
                repeat (apply tame_q rfl; (intro ρ W hC hr hD; (obtain ⟨hrc, hrg, hrf, hrs⟩ := hr); (simp [go_sem] at hD); go_simp; first | exact ⟨⟨hC, Ext.refl _⟩, rfl⟩ | exact ⟨⟨hC, RS.refl _⟩, rfl⟩ | exact rfl); simp only [List.nil_append, List.cons_append])
                refine tame_end_put rfl rfl (fun ρ V4 hC hr hF => ?_)
                simp [go_sem] at hF
                simp only [putF, hF, List.set_cons_succ, List.set_cons_zero]
                clear hF hr
                have HC := Lib.hid hC
                clear hC
                clear m3 my rs rb
                replace B5 := Lib.hid (B5.out.ext HC.out); replace R5 := Lib.hid (R5.out.ext HC.out); replace G5 := Lib.hid (grown_ext G5.out HC.out); replace E5 := Lib.hid (E5.out.trans HC.out)
                have hzV4 := HC.out.size
                clear HC
                have R5' := Lib.hid (show RowI (V4.setCell ⟨w3.heap.size, bb, none⟩ (.int .i64 (x0 + 1))) w3.heap.size o1 from ho1 ▸ R5.out.set bb (x0 + 1))
                obtain ⟨V5, hV5⟩ : ∃ V5, V5 = V4.setCell ⟨w3.heap.size, bb, none⟩ (.int .i64 (x0 + 1)) := ⟨_, rfl⟩
                rw [← hV5] at R5'
                have GS := Lib.hid (show V4.grownBy V5 (some w3.heap.size) from hV5 ▸ grown_set (World.grownBy.refl _ _) (p := ⟨w3.heap.size, bb, none⟩) (.inl rfl) _)
                replace B5 := Lib.hid (B5.out.grown GS.out (by intro e; injection e with e; omega)); replace G5 := Lib.hid (grown_tr G5.out GS.out)
                have HMX := Lib.hid ((HMV.out.ext E4.out).grown G5.out fun h b o e => by have := HMB3.out h b o e; omega)
                have rs := R5.out.cell HX0.out
                have rb := R5.out.cell HY0.out
                have rf := R5.out.frozen
                have rl := R5.out.lt
                go_wp2
                simp only [← hV5]
                clear rf rl rs rb hV5 R5 ho1 hy1 hx1 GS hycell hycell0 E5
                have R5 := R5'
                have E5 := Lib.hid (Ext.refl V5)
                obtain ⟨b8, off8, y8, e8, hy8, -, hycell⟩ := HMX.out.at_ hlt
                have hyy : y = y8 := by have := HYV.out; rw [this] at hy8; injection hy8 with hy8
                subst hyy
                injection e8 with e8
                injection e8 with e8 e8'
                subst e8 e8'
                clear R5' hy8
                have m3 := fun W (h : Ext V5 W) => (B5.out.ext h).c5.2.2.2.1
                have my := fun W (h : Ext V5 W) => SlI.cell hycell (E5.out.trans h)
                have rs := fun W (h : Ext V5 W) => (R5.out.ext h).cell HX1.out
                have rb := fun W (h : Ext V5 W) => (R5.out.ext h).cell HY1.out
                by_cases hyx : y < x.bales
                · by_cases hxy : x1 + 1 < y1
                  · have HSD := Lib.hid (show prTo c l o (i + 1) = o1.set s (y1 - 1) by rw [HPS.out, decide_eq_true hyx]; exact prD_yes HX1.out HY1.out hxy)
                    have HFN := Lib.hid (show decide (prTo c l o (i + 1) = o) = false by
                      refine chg HLE.out ?_ (by rw [HSD.out, List.length_set]) (by rw [HSD.out]; exact set_ne HX1.out (by omega))
                      rw [HPS.out]; exact prD_up _ _ _ _)
                    refine wp_region_tame (fun W => Ext V5 W) (fun W W' => Ext W W') (by kernel_rfl) 90 rfl (by decide +kernel) (Ext.refl _).drew ?_
                    repeat (apply tame_q rfl; (intro ρ W hC hr hD; (obtain ⟨hrc, hrg, hrf, hrs⟩ := hr); (simp [go_sem] at hD); go_simp; first | exact ⟨⟨hC, Ext.refl _⟩, rfl⟩ | exact ⟨⟨hC, RS.refl _⟩, rfl⟩ | exact rfl); simp only [List.nil_append, List.cons_append])
                    refine tame_end_put rfl rfl (fun ρ V6 hC hr hF => ?_)
                    simp [go_sem] at hF
                    simp only [putF, hF, List.set_cons_succ, List.set_cons_zero]
                    clear hF hr
                    have HC := Lib.hid hC
                    clear hC
                    clear m3 my rs rb
                    have R6 := Lib.hid (R5.out.ext HC.out); have G6 := Lib.hid (grown_ext G5.out HC.out)
                    clear HC
                    have rs := R6.out.cell HX1.out
                    have rb := R6.out.cell HY1.out
                    have rf := R6.out.frozen
                    have rl := R6.out.lt
                    go_wp2
                    exact Handed.intro (n3 - (i + 1)) (by omega) (HJ2.out _ _ _ ⟨i + 1, by omega, Nat.le_refl _, ⟨rfl, rfl, by rw [HFN.out]; simp [Act.eval]⟩, grown_set G6.out (p := ⟨w3.heap.size, s, none⟩) (.inl rfl) _, by rw [HSD.out]; exact R6.out.set s _⟩)
                  · have HSD := Lib.hid (show prTo c l o (i + 1) = o1 by rw [HPS.out, decide_eq_true hyx]; exact prD_no HX1.out HY1.out hxy)
                    refine wp_region_tame (fun W => Ext V5 W) (fun W W' => Ext W W') (by kernel_rfl) 90 rfl (by decide +kernel) (Ext.refl _).drew ?_
                    repeat (apply tame_q rfl; (intro ρ W hC hr hD; (obtain ⟨hrc, hrg, hrf, hrs⟩ := hr); (simp [go_sem] at hD); go_simp; first | exact ⟨⟨hC, Ext.refl _⟩, rfl⟩ | exact ⟨⟨hC, RS.refl _⟩, rfl⟩ | exact rfl); simp only [List.nil_append, List.cons_append])
                    refine tame_end_put rfl rfl (fun ρ V6 hC hr hF => ?_)
                    simp [go_sem] at hF
                    simp only [putF, hF, List.set_cons_succ, List.set_cons_zero]
                    clear hF hr
                    have HC := Lib.hid hC
                    clear hC
                    clear m3 my rs rb
                    have R6 := Lib.hid (R5.out.ext HC.out); have G6 := Lib.hid (grown_ext G5.out HC.out)
                    clear HC
                    go_wp2
                    exact Handed.intro (n3 - (i + 1)) (by omega) (HJ2.out _ _ _ ⟨i + 1, by omega, Nat.le_refl _, ⟨rfl, rfl, by rw [HSD.out, HFL.out]; simp [Act.eval]⟩, G6.out, by rw [HSD.out]; exact R6.out⟩)
                · have HSD := Lib.hid (show prTo c l o (i + 1) = o1 by rw [HPS.out, decide_eq_false hyx]; exact prD_off)
                  refine wp_region_tame (fun W => Ext V5 W) (fun W W' => Ext W W') (by kernel_rfl) 90 rfl (by decide +kernel) (Ext.refl _).drew ?_
                  repeat (apply tame_q rfl; (intro ρ W hC hr hD; (obtain ⟨hrc, hrg, hrf, hrs⟩ := hr); (simp [go_sem] at hD); go_simp; first | exact ⟨⟨hC, Ext.refl _⟩, rfl⟩ | exact ⟨⟨hC, RS.refl _⟩, rfl⟩ | exact rfl); simp only [List.nil_append, List.cons_append])
                  refine tame_end_put rfl rfl (fun ρ V6 hC hr hF => ?_)
                  simp [go_sem] at hF
                  simp only [putF, hF, List.set_cons_succ, List.set_cons_zero]
                  clear hF hr
                  have HC := Lib.hid hC
                  clear hC
                  clear m3 my rs rb
                  have R6 := Lib.hid (R5.out.ext HC.out); have G6 := Lib.hid (grown_ext G5.out HC.out)
                  clear HC
                  go_wp2
                  exact Handed.intro (n3 - (i + 1)) (by omega) (HJ2.out _ _ _ ⟨i + 1, by omega, Nat.le_refl _, ⟨rfl, rfl, by rw [HSD.out, HFL.out]; simp [Act.eval]⟩, G6.out, by rw [HSD.out]; exact R6.out⟩)
              · have HPS := Lib.hid (show prTo c l o (i + 1) = prD s bb (decide (y < x.bales)) (prTo c l o i) by
                  rw [HS0.out, decide_eq_true hyp, prU_no HX0.out HY0.out hyx0])
                obtain ⟨o1, ho1⟩ : ∃ o1, prTo c l o i = o1 := ⟨_, rfl⟩
                have HFL := Lib.hid (show (!decide (o1 = o)) = f0 by rw [← ho1]; exact HF0.out)
                rw [ho1] at HPS R5 HX0 HY0 HUP
                have HLE := HUP
                obtain ⟨x1, hx1⟩ : ∃ x1, x1 = x0 := ⟨_, rfl⟩
                obtain ⟨y1, hy1⟩ : ∃ y1, y1 = y0 := ⟨_, rfl⟩
                have hw1 : IntKind.i64.wrap (y1 - 1) = y1 - 1 := by rw [IntKind.wrap_i64]; omega
                have hw2 : IntKind.i64.wrap (x1 + 1) = x1 + 1 := by rw [IntKind.wrap_i64]; omega
                have HX1 := Lib.hid (show o1[s]? = some x1 by rw [hx1]; exact HX0.out)
                have HY1 := Lib.hid (show o1[bb]? = some y1 by rw [hy1]; exact HY0.out)
                clear hx1 hy1 ho1
                go_wp2
                refine wp_region_tame (fun W => Ext V W) (fun W W' => Ext W W') (by kernel_rfl) 90 rfl (by decide +kernel) (Ext.refl _).drew ?_
                repeat (apply tame_q rfl; (intro ρ W hC hr hD; (obtain ⟨hrc, hrg, hrf, hrs⟩ := hr); (simp [go_sem] at hD); go_simp; first | exact ⟨⟨hC, Ext.refl _⟩, rfl⟩ | exact ⟨⟨hC, RS.refl _⟩, rfl⟩ | exact rfl); simp only [List.nil_append, List.cons_append])
                refine tame_end_put rfl rfl (fun ρ V4 hC hr hF => ?_)
                simp [go_sem] at hF
                simp only [putF, hF, List.set_cons_succ, List.set_cons_zero]
                clear hF hr
                have HC := Lib.hid hC
                clear hC
                clear m3 my rs rb
                replace B5 := Lib.hid (B5.out.ext HC.out); replace R5 := Lib.hid (R5.out.ext HC.out); replace G5 := Lib.hid (grown_ext G5.out HC.out); replace E5 := Lib.hid (E5.out.trans HC.out)
                have hzV4 := HC.out.size
                clear HC
                go_wp2
                have m3 := fun W (h : Ext V4 W) => (B5.out.ext h).c5.2.2.2.1
                have my := fun W (h : Ext V4 W) => SlI.cell hycell (E5.out.trans h)
                have rs := fun W (h : Ext V4 W) => (R5.out.ext h).cell HX1.out
                have rb := fun W (h : Ext V4 W) => (R5.out.ext h).cell HY1.out
                by_cases hyx : y < x.bales
                · by_cases hxy : x1 + 1 < y1
                  · have HSD := Lib.hid (show prTo c l o (i + 1) = o1.set s (y1 - 1) by rw [HPS.out, decide_eq_true hyx]; exact prD_yes HX1.out HY1.out hxy)
                    have HFN := Lib.hid (show decide (prTo c l o (i + 1) = o) = false by
                      refine chg HLE.out ?_ (by rw [HSD.out, List.length_set]) (by rw [HSD.out]; exact set_ne HX1.out (by omega))
                      rw [HPS.out]; exact prD_up _ _ _ _)
                    refine wp_region_tame (fun W => Ext V4 W) (fun W W' => Ext W W') (by kernel_rfl) 90 rfl (by decide +kernel) (Ext.refl _).drew ?_
                    repeat (apply tame_q rfl; (intro ρ W hC hr hD; (obtain ⟨hrc, hrg, hrf, hrs⟩ := hr); (simp [go_sem] at hD); go_simp; first | exact ⟨⟨hC, Ext.refl _⟩, rfl⟩ | exact ⟨⟨hC, RS.refl _⟩, rfl⟩ | exact rfl); simp only [List.nil_append, List.cons_append])
                    refine tame_end_put rfl rfl (fun ρ V6 hC hr hF => ?_)
                    simp [go_sem] at hF
                    simp only [putF, hF, List.set_cons_succ, List.set_cons_zero]
                    clear hF hr
                    have HC := Lib.hid hC
                    clear hC
                    clear m3 my rs rb
                    have R6 := Lib.hid (R5.out.ext HC.out); have G6 := Lib.hid (grown_ext G5.out HC.out)
                    clear HC
                    have rs := R6.out.cell HX1.out
                    have rb := R6.out.cell HY1.out
                    have rf := R6.out.frozen
                    have rl := R6.out.lt
                    go_wp2
                    exact Handed.intro (n3 - (i + 1)) (by omega) (HJ2.out _ _ _ ⟨i + 1, by omega, Nat.le_refl _, ⟨rfl, rfl, by rw [HFN.out]; simp [Act.eval]⟩, grown_set G6.out (p := ⟨w3.heap.size, s, none⟩) (.inl rfl) _, by rw [HSD.out]; exact R6.out.set s _⟩)
                  · have HSD := Lib.hid (show prTo c l o (i + 1) = o1 by rw [HPS.out, decide_eq_true hyx]; exact prD_no HX1.out HY1.out hxy)
                    refine wp_region_tame (fun W => Ext V4 W) (fun W W' => Ext W W') (by kernel_rfl) 90 rfl (by decide +kernel) (Ext.refl _).drew ?_
                    repeat (apply tame_q rfl; (intro ρ W hC hr hD; (obtain ⟨hrc, hrg, hrf, hrs⟩ := hr); (simp [go_sem] at hD); go_simp; first | exact ⟨⟨hC, Ext.refl _⟩, rfl⟩ | exact ⟨⟨hC, RS.refl _⟩, rfl⟩ | exact rfl); simp only [List.nil_append, List.cons_append])
                    refine tame_end_put rfl rfl (fun ρ V6 hC hr hF => ?_)
                    simp [go_sem] at hF
                    simp only [putF, hF, List.set_cons_succ, List.set_cons_zero]
                    clear hF hr
                    have HC := Lib.hid hC
                    clear hC
                    clear m3 my rs rb
                    have R6 := Lib.hid (R5.out.ext HC.out); have G6 := Lib.hid (grown_ext G5.out HC.out)
                    clear HC
                    go_wp2
                    exact Handed.intro (n3 - (i + 1)) (by omega) (HJ2.out _ _ _ ⟨i + 1, by omega, Nat.le_refl _, ⟨rfl, rfl, by rw [HSD.out, HFL.out]; simp [Act.eval]⟩, G6.out, by rw [HSD.out]; exact R6.out⟩)
                · have HSD := Lib.hid (show prTo c l o (i + 1) = o1 by rw [HPS.out, decide_eq_false hyx]; exact prD_off)
                  refine wp_region_tame (fun W => Ext V4 W) (fun W W' => Ext W W') (by kernel_rfl) 90 rfl (by decide +kernel) (Ext.refl _).drew ?_
                  repeat (apply tame_q rfl; (intro ρ W hC hr hD; (obtain ⟨hrc, hrg, hrf, hrs⟩ := hr); (simp [go_sem] at hD); go_simp; first | exact ⟨⟨hC, Ext.refl _⟩, rfl⟩ | exact ⟨⟨hC, RS.refl _⟩, rfl⟩ | exact rfl); simp only [List.nil_append, List.cons_append])
                  refine tame_end_put rfl rfl (fun ρ V6 hC hr hF => ?_)
                  simp [go_sem] at hF
                  simp only [putF, hF, List.set_cons_succ, List.set_cons_zero]
                  clear hF hr
                  have HC := Lib.hid hC
                  clear hC
                  clear m3 my rs rb
                  have R6 := Lib.hid (R5.out.ext HC.out); have G6 := Lib.hid (grown_ext G5.out HC.out)
                  clear HC
                  go_wp2
                  exact Handed.intro (n3 - (i + 1)) (by omega) (HJ2.out _ _ _ ⟨i + 1, by omega, Nat.le_refl _, ⟨rfl, rfl, by rw [HSD.out, HFL.out]; simp [Act.eval]⟩, G6.out, by rw [HSD.out]; exact R6.out⟩)
            · have HPS := Lib.hid (show prTo c l o (i + 1) = prD s bb (decide (y < x.bales)) (prTo c l o i) by
                rw [HS0.out, decide_eq_false hyp, prU_off])
              obtain ⟨o1, ho1⟩ : ∃ o1, prTo c l o i = o1 := ⟨_, rfl⟩
              have HFL := Lib.hid (show (!decide (o1 = o)) = f0 by rw [← ho1]; exact HF0.out)
              rw [ho1] at HPS R5 HX0 HY0 HUP
              have HLE := HUP
              obtain ⟨x1, hx1⟩ : ∃ x1, x1 = x0 := ⟨_, rfl⟩
              obtain ⟨y1, hy1⟩ : ∃ y1, y1 = y0 := ⟨_, rfl⟩
              have hw1 : IntKind.i64.wrap (y1 - 1) = y1 - 1 := by rw [IntKind.wrap_i64]; omega
              have hw2 : IntKind.i64.wrap (x1 + 1) = x1 + 1 := by rw [IntKind.wrap_i64]; omega
              have HX1 := Lib.hid (show o1[s]? = some x1 by rw [hx1]; exact HX0.out)
              have HY1 := Lib.hid (show o1[bb]? = some y1 by rw [hy1]; exact HY0.out)
              clear hx1 hy1 ho1
              have hypd : decide (0 < y) = false := decide_eq_false hyp
              go_wp2
              refine wp_region_tame (fun W => Ext V W) (fun W W' => Ext W W') (by kernel_rfl) 90 rfl (by decide +kernel) (Ext.refl _).drew ?_
              repeat (apply tame_q rfl; (intro ρ W hC hr hD; (obtain ⟨hrc, hrg, hrf, hrs⟩ := hr); (simp [go_sem] at hD); go_simp; first | exact ⟨⟨hC, Ext.refl _⟩, rfl⟩ | exact ⟨⟨hC, RS.refl _⟩, rfl⟩ | exact rfl); simp only [List.nil_append, List.cons_append])
              refine tame_end_put rfl rfl (fun ρ V4 hC hr hF => ?_)
              simp [go_sem] at hF
              simp only [putF, hF, List.set_cons_succ, List.set_cons_zero]
              clear hF hr
              have HC := Lib.hid hC
              clear hC
              clear m3 my rs rb
              replace B5 := Lib.hid (B5.out.ext HC.out); replace R5 := Lib.hid (R5.out.ext HC.out); replace G5 := Lib.hid (grown_ext G5.out HC.out); replace E5 := Lib.hid (E5.out.trans HC.out)
              have hzV4 := HC.out.size
              clear HC
              go_wp2
              have m3 := fun W (h : Ext V4 W) => (B5.out.ext h).c5.2.2.2.1
              have my := fun W (h : Ext V4 W) => SlI.cell hycell (E5.out.trans h)
              have rs := fun W (h : Ext V4 W) => (R5.out.ext h).cell HX1.out
              have rb := fun W (h : Ext V4 W) => (R5.out.ext h).cell HY1.out
              by_cases hyx : y < x.bales
              · by_cases hxy : x1 + 1 < y1
                · have HSD := Lib.hid (show prTo c l o (i + 1) = o1.set s (y1 - 1) by rw [HPS.out, decide_eq_true hyx]; exact prD_yes HX1.out HY1.out hxy)
                  have HFN := Lib.hid (show decide (prTo c l o (i + 1) = o) = false by
                    refine chg HLE.out ?_ (by rw [HSD.out, List.length_set]) (by rw [HSD.out]; exact set_ne HX1.out (by omega))
                    rw [HPS.out]; exact prD_up _ _ _ _)
                  refine wp_region_tame (fun W => Ext V4 W) (fun W W' => Ext W W') (by kernel_rfl) 90 rfl (by decide +kernel) (Ext.refl _).drew ?_
                  repeat (apply tame_q rfl; (intro ρ W hC hr hD; (obtain ⟨hrc, hrg, hrf, hrs⟩ := hr); (simp [go_sem] at hD); go_simp; first | exact ⟨⟨hC, Ext.refl _⟩, rfl⟩ | exact ⟨⟨hC, RS.refl _⟩, rfl⟩ | exact rfl); simp only [List.nil_append, List.cons_append])
                  refine tame_end_put rfl rfl (fun ρ V6 hC hr hF => ?_)
                  simp [go_sem] at hF
                  simp only [putF, hF, List.set_cons_succ, List.set_cons_zero]
                  clear hF hr
                  have HC := Lib.hid hC
                  clear hC
                  clear m3 my rs rb
                  have R6 := Lib.hid (R5.out.ext HC.out); have G6 := Lib.hid (grown_ext G5.out HC.out)
                  clear HC
                  have rs := R6.out.cell HX1.out
                  have rb := R6.out.cell HY1.out
                  have rf := R6.out.frozen
                  have rl := R6.out.lt
                  go_wp2
                  exact Handed.intro (n3 - (i + 1)) (by omega) (HJ2.out _ _ _ ⟨i + 1, by omega, Nat.le_refl _, ⟨rfl, rfl, by rw [HFN.out]; simp [Act.eval]⟩, grown_set G6.out (p := ⟨w3.heap.size, s, none⟩) (.inl rfl) _, by rw [HSD.out]; exact R6.out.set s _⟩)
                · have HSD := Lib.hid (show prTo c l o (i + 1) = o1 by rw [HPS.out, decide_eq_true hyx]; exact prD_no HX1.out HY1.out hxy)
                  refine wp_region_tame (fun W => Ext V4 W) (fun W W' => Ext W W') (by kernel_rfl) 90 rfl (by decide +kernel) (Ext.refl _).drew ?_
                  repeat (apply tame_q rfl; (intro ρ W hC hr hD; (obtain ⟨hrc, hrg, hrf, hrs⟩ := hr); (simp [go_sem] at hD); go_simp; first | exact ⟨⟨hC, Ext.refl _⟩, rfl⟩ | exact ⟨⟨hC, RS.refl _⟩, rfl⟩ | exact rfl); simp only [List.nil_append, List.cons_append])
                  refine tame_end_put rfl rfl (fun ρ V6 hC hr hF => ?_)
                  simp [go_sem] at hF
                  simp only [putF, hF, List.set_cons_succ, List.set_cons_zero]
                  clear hF hr
                  have HC := Lib.hid hC
                  clear hC
                  clear m3 my rs rb
                  have R6 := Lib.hid (R5.out.ext HC.out); have G6 := Lib.hid (grown_ext G5.out HC.out)
                  clear HC
                  go_wp2
                  exact Handed.intro (n3 - (i + 1)) (by omega) (HJ2.out _ _ _ ⟨i + 1, by omega, Nat.le_refl _, ⟨rfl, rfl, by rw [HSD.out, HFL.out]; simp [Act.eval]⟩, G6.out, by rw [HSD.out]; exact R6.out⟩)
              · have HSD := Lib.hid (show prTo c l o (i + 1) = o1 by rw [HPS.out, decide_eq_false hyx]; exact prD_off)
                refine wp_region_tame (fun W => Ext V4 W) (fun W W' => Ext W W') (by kernel_rfl) 90 rfl (by decide +kernel) (Ext.refl _).drew ?_
                repeat (apply tame_q rfl; (intro ρ W hC hr hD; (obtain ⟨hrc, hrg, hrf, hrs⟩ := hr); (simp [go_sem] at hD); go_simp; first | exact ⟨⟨hC, Ext.refl _⟩, rfl⟩ | exact ⟨⟨hC, RS.refl _⟩, rfl⟩ | exact rfl); simp only [List.nil_append, List.cons_append])
                refine tame_end_put rfl rfl (fun ρ V6 hC hr hF => ?_)
                simp [go_sem] at hF
                simp only [putF, hF, List.set_cons_succ, List.set_cons_zero]
                clear hF hr
                have HC := Lib.hid hC
                clear hC
                clear m3 my rs rb
                have R6 := Lib.hid (R5.out.ext HC.out); have G6 := Lib.hid (grown_ext G5.out HC.out)
                clear HC
                go_wp2
                exact Handed.intro (n3 - (i + 1)) (by omega) (HJ2.out _ _ _ ⟨i + 1, by omega, Nat.le_refl _, ⟨rfl, rfl, by rw [HSD.out, HFL.out]; simp [Act.eval]⟩, G6.out, by rw [HSD.out]; exact R6.out⟩)
          · have HE := Lib.hid (show i = n3 by omega)
            have HTN := Lib.hid (show prTo c l o i = prIt c l (k + 1) by rw [prIt, HOI.out, prPass]; congr 1; have := HE.out; have := HN2.out; omega)
            go_wp2
            have hrw := RW.out
            rw [HTN.out] at hrw
            have hgap : gap o π < g := by
              rcases HK.out with ⟨rfl, -, h1⟩ | ⟨j, rfl, h1, h2⟩
              · rw [← HOI.out]; omega
              · have h3 : prPass c l (prIt c l j) ≠ prIt c l j := fun e => by
                  rw [show prIt c l (j + 1) = prPass c l (prIt c l j) from rfl, decide_eq_true e] at h1
                  cases h1
                have h4 := pr_step HTOP.out (fun v => (H06.out v).1) j h3
                rw [← HOI.out]; omega
            exact Handed.intro (gap o π) hgap (HJ.out _ _ _ ⟨k + 1, f0, .inr ⟨k, rfl, by rw [← HF0.out, HTN.out, HOI.out], Nat.le_of_eq (by rw [HOI.out])⟩, ⟨rfl, rfl, by simp [Act.eval]⟩, HG.out, hrw⟩)
end Go.Proofs.YtafdbgielmlihaaDoor
