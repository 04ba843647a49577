/- Orders of lots, and how uneven lots are: plain laws for the last statements, no program in sight. -/
import Derived.Test.YtkpengeaolcjhaaGreatDoorPkMlBestCardU
import Derived.Test.YtkpengeaolcjhaaGreatDoorPkMlBestCardW
import Derived.Test.YtkpengeaolcjhaaGreatDoorPkMlBestCardX
import Derived.Test.YtkpengeaolcjhaaGreatDoorPkMlBestCardV
import Derived.Test.YtkpengeaolcjhaaGreatDoorPkMlBestCardY
import Derived.Test.YtkpengeaolcjhaaGreatDoorPkMlBestCardT
namespace Go.Proofs.YtkpengeaolcjhaaGreatDoor
set_option linter.unusedSimpArgs false

/-! Orders. -/
theorem befL_pre : ∀ (l a b : List Int), befL (l ++ a) (l ++ b) = befL a b
  | [], _, _ => rfl
  | x :: l, a, b => by rw [List.cons_append, List.cons_append, befL, if_pos rfl, befL_pre l]
theorem runsF_pre {n : Nat} : ∀ {k : Nat} {l x : List Int}, x ∈ runsF n k l → l <+: x
  | 0, l, x, h => by
    simp [runsF] at h
    subst h
    exact List.prefix_refl _
  | k + 1, l, x, h => by
    unfold runsF at h
    obtain ⟨i, -, h⟩ := List.mem_flatMap.1 h
    split at h
    · simp at h
    · exact (List.prefix_append l _).trans (runsF_pre h)
theorem runsF_pw (n : Nat) : ∀ (k : Nat) (l : List Int), (runsF n k l).Pairwise fun a b => befL a b = true
  | 0, l => by simp [runsF]
  | k + 1, l => by
    unfold runsF
    rw [List.pairwise_flatMap]
    refine ⟨fun i _ => ?_, (List.pairwise_lt_range (n := n)).imp fun {i j} hij x hx y hy => ?_⟩
    · split
      · exact List.Pairwise.nil
      · exact runsF_pw n k _
    · split at hx
      · simp at hx
      · split at hy
        · simp at hy
        · obtain ⟨s, rfl⟩ := runsF_pre hx
          obtain ⟨t, rfl⟩ := runsF_pre hy
          rw [List.append_assoc, List.append_assoc, befL_pre, List.singleton_append, List.singleton_append, befL, if_neg (by omega)]
          simp; omega
theorem runsF_nodup {n : Nat} : ∀ {k : Nat} {l x : List Int}, x ∈ runsF n k l → l.Nodup → x.Nodup
  | 0, l, x, h, hl => by
    simp [runsF] at h
    subst h
    exact hl
  | k + 1, l, x, h, hl => by
    unfold runsF at h
    obtain ⟨i, -, h⟩ := List.mem_flatMap.1 h
    split at h
    · simp at h
    · rename_i hc
      refine runsF_nodup h ?_
      rw [List.nodup_append]
      refine ⟨hl, by simp, fun a ha b hb e => ?_⟩
      simp at hb hc
      exact hc (by rw [← hb, ← e]; exact ha)
theorem runsF_of {n : Nat} : ∀ {k : Nat} {l x : List Int}, l <+: x → x.length = l.length + k → x.Nodup → (∀ y ∈ x, 1 ≤ y ∧ y ≤ (n : Int)) → x ∈ runsF n k l
  | 0, l, x, h, hl, _, _ => by
    simp only [runsF, List.mem_singleton]
    exact (h.eq_of_length (by omega)).symm
  | k + 1, l, x, h, hl, hd, hr => by
    obtain ⟨t, rfl⟩ := h
    cases t with
    | nil => simp at hl
    | cons a t =>
      have ha := hr a (by simp)
      unfold runsF
      refine List.mem_flatMap.2 ⟨(a - 1).toNat, List.mem_range.2 (by omega), ?_⟩
      have e : (((a - 1).toNat : Nat) : Int) + 1 = a := by omega
      rw [e, if_neg ?_]
      · exact runsF_of ⟨t, by simp⟩ (by simp at hl ⊢; omega) hd hr
      · simp only [List.contains_iff_mem]
        intro hm
        exact (List.nodup_append.1 hd).2.2 a hm a (by simp) rfl
theorem runsL_of {n : Nat} {x : List Int} (h1 : x.length = n) (h2 : x.Nodup) (h3 : ∀ y ∈ x, 1 ≤ y ∧ y ≤ (n : Int)) : x ∈ runsL n := runsF_of ⟨x, rfl⟩ (by simp [h1]) h2 h3
theorem runsL_nodup {n : Nat} {x : List Int} (h : x ∈ runsL n) : x.Nodup := runsF_nodup h List.nodup_nil
theorem ordS_less (f : Int → Int) (a b : List Int) : decide (ordS f a b < 0) = decide (stepL f a < stepL f b) := by
  unfold ordS cmpI
  rw [Bool.eq_iff_iff]
  simp only [decide_eq_true_eq]
  repeat' split
  all_goals omega
/-- **No order has a smaller step than the first one; one with the same is not before it.** -/
theorem run_first {f : Int → Int} {n : Nat} {b x : List Int} (h : firstM (fun a b => decide (ordS f a b < 0)) (runsL n) = some b) (hx : x ∈ runsL n) : stepL f b ≤ stepL f x ∧ (stepL f x = stepL f b → befL x b = false) := by
  obtain ⟨A, B, e, h1, h2⟩ := firstM_spec (less := fun a b => decide (ordS f a b < 0)) (fun a b c h1 h2 => by
      rw [ordS_less] at h1 h2 ⊢
      simp at h1 h2 ⊢; omega) (fun a b c h1 h2 => by
      rw [ordS_less] at h1 h2 ⊢
      simp at h1 h2 ⊢; omega) (fun a => by rw [ordS_less]; simp) h
  have hpw := runsF_pw n n []
  change (runsL n).Pairwise _ at hpw
  rw [e] at hpw hx
  rcases List.mem_append.1 hx with hx | hx
  · have := h1 x hx
    rw [ordS_less] at this
    simp at this
    exact ⟨by omega, fun e => by omega⟩
  · rcases List.mem_cons.1 hx with rfl | hx
    · exact ⟨Int.le_refl _, fun _ => befL_irr _⟩
    · have h3 := h2 x hx
      rw [ordS_less] at h3
      simp at h3
      exact ⟨h3, fun _ => befL_asym ((List.pairwise_cons.1 (List.pairwise_append.1 hpw).2.1).1 x hx)⟩
theorem run_some (f : Int → Int) (n : Nat) : ∃ b, firstM (fun a b => decide (ordS f a b < 0)) (runsL n) = some b ∧ b ∈ runsL n := by
  have h : lotsJ n ∈ runsL n := runsL_of (lotsJ_len n) (lotsJ_nodup n) fun y hy => lotsJ_mem.1 hy
  cases hb : firstM (fun a b => decide (ordS f a b < 0)) (runsL n) with
  | none => rw [firstM_none.1 hb] at h; simp at h
  | some b =>
    refine ⟨b, rfl, ?_⟩
    rcases firstM_mem _ (runsL n) none b hb with h | h
    · exact h
    · cases h
/-- Two lots change their places. -/
def turnO (l : List Int) (i k : Nat) : List Int := (l.set i (l[k]?.getD 0)).set k (l[i]?.getD 0)
theorem turn_mem {n : Nat} {b : List Int} {i k : Nat} (hb : b ∈ runsL n) (hi : i < n) (hk : k < n) : turnO b i k ∈ runsL n := by
  obtain ⟨h1, h2⟩ := runsL_mem hb
  have hp : (turnO b i k).Perm b := by
    unfold turnO
    rw [List.getElem?_eq_getElem (by omega : i < b.length), List.getElem?_eq_getElem (by omega : k < b.length)]
    exact List.set_set_perm (by omega) (by omega)
  exact runsL_of (by rw [hp.length_eq, h1]) (hp.symm.nodup (runsL_nodup hb)) fun y hy => h2 y (hp.mem_iff.1 hy)

/-! How uneven the lots are, one by one. -/
theorem lotL_iff {p v : List Int} {j x : Int} : x ∈ lotL p v j ↔ ∃ i : Nat, p[i]? = some j ∧ v[i]? = some x := by
  unfold lotL
  rw [List.mem_map]
  constructor
  · rintro ⟨⟨a, b⟩, h, rfl⟩
    obtain ⟨h1, h2⟩ := List.mem_filter.1 h
    obtain ⟨i, hi⟩ := List.mem_iff_getElem?.1 h1
    obtain ⟨h3, h4⟩ := List.getElem?_zip_eq_some.1 hi
    simp at h2
    exact ⟨i, h2 ▸ h3, h4⟩
  · rintro ⟨i, h1, h2⟩
    refine ⟨(j, x), List.mem_filter.2 ⟨List.mem_iff_getElem?.2 ⟨i, List.getElem?_zip_eq_some.2 ⟨h1, h2⟩⟩, by simp⟩, rfl⟩
def prCell (p v : List Int) (i k : Nat) : List Int := if p[i]?.getD 0 ≠ 0 ∧ p[i]?.getD 0 = p[k]?.getD 0 then [v[i]?.getD 0 - v[k]?.getD 0] else []
def prRow (p v : List Int) (i k : Nat) : List Int := (List.range k).flatMap (prCell p v i)
/-- What has been looked at ahead of the bale k of the round i. -/
def prTo (p v : List Int) (i k : Nat) : List Int := ((List.range i).flatMap fun j => prRow p v j p.length) ++ prRow p v i k
def prS (p v : List Int) (i k : Nat) : Int := (prTo p v i k).foldl max 0
theorem prS_cell (p v : List Int) (i k : Nat) : prS p v i (k + 1) = if p[i]?.getD 0 ≠ 0 ∧ p[i]?.getD 0 = p[k]?.getD 0 then max (prS p v i k) (v[i]?.getD 0 - v[k]?.getD 0) else prS p v i k := by
  unfold prS prTo prRow
  rw [List.range_succ, List.flatMap_append, ← List.append_assoc, List.foldl_append]
  simp only [List.flatMap_cons, List.flatMap_nil, List.append_nil, prCell]
  split <;> rfl
theorem prS_row (p v : List Int) (i : Nat) : prS p v (i + 1) 0 = prS p v i p.length := by
  unfold prS prTo
  rw [List.range_succ, List.flatMap_append]
  simp [prRow]
theorem prS_bd {p v : List Int} (hv : ∀ x ∈ v, 0 ≤ x ∧ x ≤ 999) (i k : Nat) : 0 ≤ prS p v i k ∧ prS p v i k ≤ 999 := by
  refine ⟨foldlM_max_le _ 0, ?_⟩
  have hg : ∀ i : Nat, 0 ≤ v[i]?.getD 0 ∧ v[i]?.getD 0 ≤ 999 := fun i => by
    cases h : v[i]? with
    | none => simp
    | some x => exact hv x (List.mem_of_getElem? h)
  have hm : ∀ x ∈ prTo p v i k, x ≤ 999 := fun x hx => by
    have hc : ∀ i k, ∀ x ∈ prCell p v i k, x ≤ 999 := fun i k x hx => by
      unfold prCell at hx
      split at hx
      · simp at hx
        have := hg i; have := hg k; omega
      · simp at hx
    have hr : ∀ i k, ∀ x ∈ prRow p v i k, x ≤ 999 := fun i k x hx => by
      obtain ⟨j, -, h⟩ := List.mem_flatMap.1 hx
      exact hc i j x h
    rcases List.mem_append.1 hx with h | h
    · obtain ⟨j, -, h⟩ := List.mem_flatMap.1 h
      exact hr _ _ x h
    · exact hr _ _ x h
  have := foldZ_max_mem (prTo p v i k) 0
  unfold prS
  rcases this with h | h
  · omega
  · exact hm _ h
theorem pr_even {lots : Int} {p v : List Int} (hl : p.length = v.length) (hr : ∀ x ∈ p, 0 ≤ x ∧ x ≤ lots) : prS p v p.length 0 = farA (lotsL lots p v) := by
  have hp : prTo p v p.length 0 = (List.range p.length).flatMap fun j => prRow p v j p.length := by unfold prTo prRow; simp
  refine Int.le_antisymm ?_ ?_
  · unfold prS
    rcases foldZ_max_mem (prTo p v p.length 0) 0 with h | h
    · rw [h]; exact (farA_ge _ 0).1
    · obtain ⟨d, hd⟩ : ∃ d, (prTo p v p.length 0).foldl max 0 = d := ⟨_, rfl⟩
      rw [hd] at h ⊢
      rw [hp] at h
      obtain ⟨i, hi, h⟩ := List.mem_flatMap.1 h
      obtain ⟨k, hk, h⟩ := List.mem_flatMap.1 h
      rw [List.mem_range] at hi hk
      unfold prCell at h
      split at h
      · rename_i hc
        simp only [List.mem_singleton] at h
        rw [List.getElem?_eq_getElem hi, List.getElem?_eq_getElem hk] at hc
        rw [List.getElem?_eq_getElem (by omega : i < v.length), List.getElem?_eq_getElem (by omega : k < v.length)] at h
        simp only [Option.getD_some] at hc h
        rw [h]
        have hj := hr p[i] (List.getElem_mem hi)
        refine Int.le_trans (farL_ge (l := lotL p v p[i]) (lotL_iff.2 ⟨k, by rw [hc.2, List.getElem?_eq_getElem hk], List.getElem?_eq_getElem _⟩) (lotL_iff.2 ⟨i, List.getElem?_eq_getElem hi, List.getElem?_eq_getElem _⟩)) ((farA_ge _ 0).2 _ ?_)
        unfold lotsL
        exact List.mem_map.2 ⟨(p[i] - 1).toNat, List.mem_range.2 (by omega), by congr 1; omega⟩
      · simp at h
  · refine farA_le _ 0 (foldlM_max_le _ 0) fun l hl2 => ?_
    unfold lotsL at hl2
    obtain ⟨j, hj, rfl⟩ := List.mem_map.1 hl2
    refine farL_le (foldlM_max_le _ 0) fun x hx y hy => ?_
    obtain ⟨k, h1, h2⟩ := lotL_iff.1 hx
    obtain ⟨i, h3, h4⟩ := lotL_iff.1 hy
    refine foldZ_max_ge _ 0 _ ?_
    rw [hp]
    refine List.mem_flatMap.2 ⟨i, List.mem_range.2 (List.getElem?_eq_some_iff.1 h3).1, List.mem_flatMap.2 ⟨k, List.mem_range.2 (List.getElem?_eq_some_iff.1 h1).1, ?_⟩⟩
    unfold prCell
    rw [h3, h1, h4, h2]
    simp only [Option.getD_some]
    rw [if_pos ⟨by omega, trivial⟩]
    simp
/-- Lots change their names. -/
def turnP (lots : Int) (p : List Int) : List Int := p.map fun x => if x = 0 then 0 else lots + 1 - x
theorem turn_lot {lots j : Int} (hj : 1 ≤ j ∧ j ≤ lots) : ∀ (p v : List Int), (∀ x ∈ p, 0 ≤ x ∧ x ≤ lots) → lotL (turnP lots p) v j = lotL p v (lots + 1 - j)
  | [], _, _ => by simp [turnP, lotL]
  | a :: p, [], _ => by simp [turnP, lotL]
  | a :: p, x :: v, h => by
    have ih := turn_lot hj p v fun y hy => h y (by simp [hy])
    have ha := h a (by simp)
    unfold turnP at ih ⊢
    rw [List.map_cons, lotL_cons, lotL_cons, ih]
    congr 1
    by_cases h0 : a = 0
    · rw [if_pos h0, if_neg (by omega), if_neg (by omega)]
    · rw [if_neg h0]
      by_cases h1 : lots + 1 - a = j
      · rw [if_pos h1, if_pos (by omega)]
      · rw [if_neg h1, if_neg (by omega)]
theorem turn_cnt {lots j : Int} (hj : 1 ≤ j ∧ j ≤ lots) (p : List Int) (h : ∀ x ∈ p, 0 ≤ x ∧ x ≤ lots) : inLot (turnP lots p) j = inLot p (lots + 1 - j) := by
  rw [← lotL_len (plan := turnP lots p) (vals := p) (by simp [turnP]) j, turn_lot hj p p h, lotL_len rfl]
theorem turn_fit {lots : Int} : ∀ (p : List Int) (fit : List Bool), (∀ x ∈ p, 0 ≤ x ∧ x ≤ lots) → fitOk (turnP lots p) fit = fitOk p fit
  | [], _, _ => rfl
  | a :: p, [], _ => rfl
  | a :: p, b :: r, h => by
    have ih := turn_fit p r fun y hy => h y (by simp [hy])
    have ha := h a (by simp)
    unfold turnP at ih ⊢
    rw [List.map_cons, fitOk_cons, fitOk_cons, ih]
    congr 2
    by_cases h0 : a = 0
    · rw [if_pos h0, h0]
    · rw [if_neg h0]
      congr 1
      rw [decide_eq_decide]
      omega
theorem turn_plan {m : Mll} (hm : Mok m) {p : List Int} (hp : p ∈ plansL m) : okPlan m (turnP m.lots p) = true ∧ unev m (turnP m.lots p) = unev m p := by
  have := hm.l1; have := hm.l3
  obtain ⟨h1, h2, h3⟩ := plans_mem hm hp
  have hr : ∀ x ∈ turnP m.lots p, 0 ≤ x ∧ x ≤ m.lots := fun x hx => by
    obtain ⟨y, hy, rfl⟩ := List.mem_map.1 hx
    have := h2 y hy
    split <;> omega
  refine ⟨?_, ?_⟩
  · refine okPlan_yes (by simp [turnP, h1]) (List.all_eq_true.2 fun x hx => inB_iff.2 (hr x hx)) (by rw [turn_fit p _ h2]; exact plansF_fit hp) ?_
    have hc : ∀ i : Nat, i < 3 → inLot (turnP m.lots p) ((i : Int) + 1) = if i < m.lots.toNat then m.size else 0 := fun i hi => by
      by_cases hil : i < m.lots.toNat
      · rw [if_pos hil, turn_cnt (by omega) p h2]
        have := h3 (m.lots - 1 - i).toNat (by omega)
        rw [if_pos (by omega)] at this
        rw [← this]
        congr 1
        omega
      · rw [if_neg hil]
        unfold inLot
        rw [List.filter_eq_nil_iff.2 fun x hx => ?_]
        · rfl
        · have := hr x hx
          simp
          omega
    have a := hc 0 (by omega); have b := hc 1 (by omega); have c := hc 2 (by omega)
    unfold fullF
    rw [show (List.range 3).map (fun i => if i < m.lots.toNat then m.size else 0) = [if 0 < m.lots.toNat then m.size else 0, if 1 < m.lots.toNat then m.size else 0, if 2 < m.lots.toNat then m.size else 0] from rfl, ← a, ← b, ← c]
    rfl
  · have e : ∀ v : List Int, farA (lotsL m.lots (turnP m.lots p) v) = farA (lotsL m.lots p v) := fun v => by
      refine Int.le_antisymm (farA_le _ 0 (farA_ge _ 0).1 fun l hl => ?_) (farA_le _ 0 (farA_ge _ 0).1 fun l hl => ?_)
      · refine (farA_ge _ 0).2 l ?_
        unfold lotsL at hl ⊢
        obtain ⟨i, hi, rfl⟩ := List.mem_map.1 hl
        rw [List.mem_range] at hi
        rw [turn_lot (by omega) p v h2]
        exact List.mem_map.2 ⟨(m.lots - 1 - i).toNat, List.mem_range.2 (by omega), by congr 1; omega⟩
      · refine (farA_ge _ 0).2 l ?_
        unfold lotsL at hl ⊢
        obtain ⟨i, hi, rfl⟩ := List.mem_map.1 hl
        rw [List.mem_range] at hi
        refine List.mem_map.2 ⟨(m.lots - 1 - i).toNat, List.mem_range.2 (by omega), ?_⟩
        rw [turn_lot (by omega) p v h2]
        congr 1
        omega
    unfold unev
    rw [e, e]
/-- Bales that are alike. -/
theorem unev_alike {m : Mll} {a b : Int} (h1 : ∀ x ∈ m.cots, x.len = a) (h2 : ∀ x ∈ m.cots, x.str = b) (p : List Int) : unev m p = (0, 0) := by
  have e : ∀ (v : List Int) (c : Int), (∀ x ∈ v, x = c) → farA (lotsL m.lots p v) = 0 := fun v c hv => by
    refine Int.le_antisymm (farA_le _ 0 (Int.le_refl _) fun l hl => ?_) (farA_ge _ 0).1
    unfold lotsL at hl
    obtain ⟨i, -, rfl⟩ := List.mem_map.1 hl
    refine farL_le (Int.le_refl _) fun x hx y hy => ?_
    have := hv x (lotL_mem hx); have := hv y (lotL_mem hy)
    omega
  unfold unev
  rw [e (lensL m) a fun x hx => by obtain ⟨y, hy, rfl⟩ := List.mem_map.1 hx; exact h1 y hy, e (strsL m) b fun x hx => by obtain ⟨y, hy, rfl⟩ := List.mem_map.1 hx; exact h2 y hy]
end Go.Proofs.YtkpengeaolcjhaaGreatDoor
/- The laws' exchanged and stepped. -/
namespace Go.Proofs.YtkpengeaolcjhaaGreatDoor
open Go.RowKit Go.Shelf Go.Lib
set_option maxRecDepth 100000
set_option linter.unusedSimpArgs false

theorem max3_int (ts : Array TypeId) (ty : TypeId) (n a b : Int) (W : World) : (Builtin.max_ ts ty #[.int .i64 n, .int .i64 a, .int .i64 b]).run Tryz.prog W = .ok (.int .i64 (max (max n a) b)) W := by
  have e : ∀ x y : Int, (if y > x then y else x) = max x y := fun x y => by split <;> omega
  have h : (Builtin.max_ ts ty #[.int .i64 n, .int .i64 a, .int .i64 b]).run Tryz.prog W = .ok (.int .i64 (if b > (if a > n then a else n) then b else (if a > n then a else n))) W := by
    simp [Builtin.max_, Builtin.max2]
  rw [h, e, e]
/-- The sums of the lots, by value. -/
abbrev valS4 (a0 a1 a2 a3 : Int) : Value := .agg #[.int .i64 a0, .int .i64 a1, .int .i64 a2, .int .i64 a3]
theorem runs_new {n : Nat} {l : List Int} (h : l ∈ runsL n) {i j : Nat} {x y : Int} (hij : i ≠ j) (hx : l[i]? = some x) (hy : l[j]? = some y) : x ≠ y := by
  have hd := runsL_nodup h
  have hi := (List.getElem?_eq_some_iff.1 hx).1
  rintro rfl
  exact hij ((List.getElem?_inj hi hd).1 (hx.trans hy.symm))
theorem gap_three (n a b : Int) : max (max n (a - b)) (b - a) = max n (gapI a b) := by unfold gapI; omega
set_option maxHeartbeats 8000000 in
theorem stepped_any (n : Nat) (f : Int → Int) (l : List Int) (lv : Value) (w : World) (hn3 : n ≤ 3) (hl : l ∈ runsL n) (hf : ∀ x, 0 ≤ f x ∧ f x ≤ 9000) (hs : SlI w lv l) :
    Calls Tryz.prog 39 #[valS4 0 (f 1) (f 2) (f 3), lv] w fun e w' => e = .returned (.tuple #[.int .i64 (stepL f l), .bool true]) ∧ Ext w w' := by
  have HS := Lib.hid hs; have HF := Lib.hid hf; have HR := Lib.hid hl
  obtain ⟨A, q, c, rfl, hq, hlc, hcm⟩ := hs.form
  obtain rfl : q = n := by have := hq.out; have := (runsL_mem hl).1; omega
  have HL := Lib.hid (show l.length = q from hq.out.symm)
  obtain ⟨tot, htot⟩ : ∃ tot, stepL f l = tot := ⟨_, rfl⟩
  have HT := Lib.hid htot
  rw [htot]
  clear hs hl hf hq htot
  go_enter Tryz.func39, Tryz.ntmps39
  go_wp2
  obtain ⟨w2, hw2⟩ : ∃ w2, w2 = w.alloc (.cells #[.int .i64 0, .int .i64 (f 1), .int .i64 (f 2), .int .i64 (f 3)] 77) := ⟨_, rfl⟩
  rw [← hw2]
  have E2 := Lib.hid (show Ext w w2 from hw2 ▸ Ext.al _ _)
  have B2 := Lib.hid (show Blk w2 w.heap.size 77 #[.int .i64 0, .int .i64 (f 1), .int .i64 (f 2), .int .i64 (f 3)] from hw2 ▸ Blk.new _ _ _)
  clear hw2
  have bc : ∀ W, Ext w2 W → ∀ j : Nat, 1 ≤ j → j ≤ 3 → W.cell? ⟨w.heap.size, j, none⟩ = some (.int .i64 (f (j : Int))) := fun W h j h1 h3 => by
    rcases (by omega : j = 1 ∨ j = 2 ∨ j = 3) with rfl | rfl | rfl
    · exact (B2.out.ext h).cell 1
    · exact (B2.out.ext h).cell 2
    · exact (B2.out.ext h).cell 3
  have BC := Lib.hid bc
  clear bc
  go_loopg [6, 15] q (fun gg s6 s15 wr => ∃ i : Nat, i ≤ q ∧ q - i ≤ gg ∧ s6 = .int .i64 (stepTo f l (i - 1)) ∧ s15 = .int .i64 (i : Int) ∧ Aside (Ext w2 wr))
  case atStart => exact ⟨0, by omega, by omega, rfl, by simp, Ext.refl _⟩
  case round =>
    obtain ⟨i, hi, hgg, rfl, rfl, EW⟩ := hrel
    by_cases hlt : i < q
    · have hltz : (i : Int) < (q : Int) := by omega
      have hi0 : (0 : Int) ≤ (i : Int) := by omega
      have hiq : (i : Int) ≤ (q : Int) := by omega
      have hic : (i : Int) ≤ (c : Int) := by omega
      obtain ⟨b, off, x, rfl, hx, hbl, hcx⟩ := HS.out.at_ hlt
      obtain ⟨hx1, hx3⟩ := (runsL_mem HR.out).2 x (List.mem_of_getElem? hx)
      obtain ⟨j, hj⟩ : ∃ j : Nat, x = (j : Int) := ⟨x.toNat, by omega⟩
      subst hj
      have HX := Lib.hid hx
      have hj1 : 1 ≤ j := by omega
      have hj3 : j ≤ q := by omega
      have hnl : ¬ (j : Int) < 1 := by omega
      have hng : ¬ (q : Int) < (j : Int) := by omega
      have hzl : Hid (0 ≤ stepTo f l (i - 1) ∧ stepTo f l (i - 1) ≤ 9000) := Lib.hid (stepTo_bd (by decide) HF.out _)
      have T1 := Lib.hid (HS.out.take (k := i) (c' := c) (by omega) (by omega) (by unfold maxLen; omega))
      have c0 := SlI.cell hcx (E2.out.trans EW.out)
      clear hx
      go_wp2
      rename World => wO
      go_loopg [32] i (fun gg s32 wr => ∃ t : Nat, t ≤ i ∧ i - t ≤ gg ∧ s32 = .int .i64 (t : Int) ∧ Aside (Ext wO wr))
      case atStart => exact ⟨0, by omega, by omega, by simp, Ext.refl _⟩
      case round =>
        obtain ⟨t, ht, hgt, rfl, ET⟩ := hrel
        by_cases hti : t < i
        · have htz : (t : Int) < (i : Int) := by omega
          obtain ⟨b', off', y, e2, hy, -, hcy⟩ := T1.out.at_ hti
          injection e2 with e2
          injection e2 with e21 e22
          subst e21 e22
          have hyl : l[t]? = some y := by rw [List.getElem?_take, if_pos hti] at hy; exact hy
          have hne := runs_new HR.out (show t ≠ i by omega) hyl HX.out
          have hnb : (y == (j : Int)) = false := by simpa using hne
          have c1 := SlI.cell hcy ((E2.out.trans EW.out).trans ET.out)
          clear hy hyl hne hcy
          go_wp2
          go_roundg (i - (t + 1))
          case measure => omega
          case rel => exact ⟨t + 1, by omega, by omega, by simp, ET.out⟩
        · obtain rfl : t = i := by omega
          by_cases h0 : t = 0
          · subst h0
            have EW2 := Lib.hid (EW.out.trans ET.out)
            go_wp2
            go_roundg (q - (0 + 1))
            case measure => omega
            case rel => exact ⟨1, by omega, by omega, rfl, by simp, EW2.out⟩
          · obtain ⟨k, hk⟩ : ∃ k, t = k + 1 := ⟨t - 1, by omega⟩
            have HK := Lib.hid hk
            have hkw : IntKind.i64.wrap ((t : Int) - 1) = (k : Int) := by rw [show (t : Int) - 1 = (k : Int) by omega]; exact wrap_nat (by omega)
            have hk0 : (0 : Int) ≤ (k : Int) := by omega
            have hkq : (k : Int) < (q : Int) := by omega
            have htp : (0 : Int) < (t : Int) := by omega
            have htp2 : 0 < t := by omega
            obtain ⟨b', off', y, e2, hy, -, hcy⟩ := HS.out.at_ (show k < q by omega)
            injection e2 with e2
            injection e2 with e21 e22
            subst e21 e22
            obtain ⟨hy1, hy3⟩ := (runsL_mem HR.out).2 y (List.mem_of_getElem? hy)
            obtain ⟨m, hm⟩ : ∃ m : Nat, y = (m : Int) := ⟨y.toNat, by omega⟩
            subst hm
            have hm1 : 1 ≤ m := by omega
            have hm3 : m ≤ q := by omega
            have hj4 : (j : Int) < 4 := by omega
            have hj0 : (0 : Int) ≤ (j : Int) := by omega
            have hm4 : (m : Int) < 4 := by omega
            have hm0 : (0 : Int) ≤ (m : Int) := by omega
            have HST := Lib.hid (show stepTo f l t = max (stepTo f l (t - 1)) (gapI (f (j : Int)) (f (m : Int))) by
              have h := stepTo_succ f l k
              rw [hy, show l[k + 1]? = some (j : Int) by rw [← HK.out]; exact HX.out] at h
              rw [HK.out, h, Nat.add_sub_cancel]
              rfl)
            have c1 := fun W (h : Ext wr W) => SlI.cell hcy (((E2.out.trans EW.out).trans ET.out).trans h)
            have a0 := fun W (h : Ext wr W) => BC.out W ((EW.out.trans ET.out).trans h) j hj1 (by omega)
            have a1 := fun W (h : Ext wr W) => BC.out W ((EW.out.trans ET.out).trans h) m hm1 (by omega)
            obtain ⟨u, hu⟩ : ∃ u, f (j : Int) = u := ⟨_, rfl⟩
            obtain ⟨v, hv⟩ : ∃ v, f (m : Int) = v := ⟨_, rfl⟩
            have hub := HF.out (j : Int)
            have hvb := HF.out (m : Int)
            rw [hu] at hub
            rw [hv] at hvb
            rw [hu, hv] at HST
            simp only [hu] at a0
            simp only [hv] at a1
            have huv : IntKind.i64.wrap (u - v) = u - v := by rw [IntKind.wrap_i64]; omega
            have hvu : IntKind.i64.wrap (v - u) = v - u := by rw [IntKind.wrap_i64]; omega
            clear hy hcy hu hv hub hvb hk
            go_wp2_with fail
            refine wp_region_tame (fun W => Ext wr W) (fun W W' => Ext W W') (by kernel_rfl) 62 rfl (by decide +kernel) (Ext.refl _).drew ?_
            repeat (apply tame_q rfl; (intro ρ W hC hr hD; (obtain ⟨hrc, hrg, hrf, hrs⟩ := hr); (simp [go_sem] at hD); go_simp; first | exact ⟨⟨hC, Ext.refl _⟩, rfl⟩ | exact ⟨⟨hC, RS.refl _⟩, rfl⟩ | exact rfl); simp only [List.nil_append, List.cons_append])
            refine tame_end 62 rfl rfl (fun ρ W' hC hr hF => ?_)
            obtain ⟨hrc', hrg, hrf, hrs⟩ := hr
            simp [go_sem] at hF
            apply frame_to
            · go_simp
              exact rfl
            have EW2 := Lib.hid ((EW.out.trans ET.out).trans hC)
            clear hF hrs hrc' hrg hrf hC c1 a0 a1
            have HG3 := Lib.hid (gap_three (stepTo f l (t - 1)) u v)
            have mx3 := fun W => max3_int #[3, 3, 3] 3 (stepTo f l (t - 1)) (u - v) (v - u) W
            go_wp2
            go_roundg (q - (t + 1))
            case measure => omega
            case rel => exact ⟨t + 1, by omega, by omega, by first | (rw [Nat.add_sub_cancel, HST.out, ← HG3.out]; done) | (rw [Nat.add_sub_cancel, HST.out, ← HG3.out]; simp), by simp, EW2.out⟩
    · obtain rfl : i = q := by omega
      have HEN := Lib.hid (show stepTo f l (i - 1) = tot by rw [← HT.out]; unfold stepL; rw [HL.out])
      have EE := Lib.hid (E2.out.trans EW.out)
      go_wp2
      go_ret2
      exact ⟨by first | (rw [HEN.out]; rfl) | (simp [HEN.out]), EE.out⟩
end Go.Proofs.YtkpengeaolcjhaaGreatDoor
/- The law MillSwap: the walk. -/
namespace Go.Proofs.YtkpengeaolcjhaaGreatDoor
open Go.RowKit Go.Shelf Go.Lib
set_option maxRecDepth 100000
set_option linter.unusedSimpArgs false

theorem plan_some {m : Mll} (hm : Mok m) {p : List Int} (h : p ∈ plansL m) : 0 < p.length := by
  have h1 := plan_nz hm h
  have h2 : nzP p ≤ p.length := List.length_filter_le _ _
  have h3 := hm.l1; have h4 := hm.s2
  have h5 : 2 ≤ m.lots * m.size := by
    have := Int.mul_le_mul h3 h4 (by decide) (by omega)
    omega
  omega
theorem mod_at {x : Int} {n : Nat} (h0 : 0 ≤ x) (hn : 0 < n) : ∃ i : Nat, i < n ∧ x.tmod (n : Int) = (i : Int) := by
  obtain ⟨k, rfl⟩ : ∃ k : Nat, x = (k : Int) := ⟨x.toNat, by omega⟩
  refine ⟨k % n, Nat.mod_lt _ hn, ?_⟩
  rw [Int.tmod_eq_emod_of_nonneg h0]
  omega
end Go.Proofs.YtkpengeaolcjhaaGreatDoor
