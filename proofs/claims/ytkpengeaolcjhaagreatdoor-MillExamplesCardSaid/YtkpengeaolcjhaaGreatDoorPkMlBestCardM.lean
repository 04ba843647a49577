/- The reference's Kind. -/
import Derived.Test.YtkpengeaolcjhaaGreatDoorPkMlBestCardJ
import Derived.Test.YtkpengeaolcjhaaGreatDoorPkMlBestCardL
namespace Go.Proofs.YtkpengeaolcjhaaGreatDoor
open Go.RowKit Go.Shelf
set_option maxRecDepth 100000
set_option linter.unusedSimpArgs false

/-- All kinds that a bale can be. -/
def kindS (b : Bale) : S4 := kindsOf (truthsL ((spans b).zip [0, 0, 0, 0, 0]))
def kindK (s : S4) (k : Int) : Int := if s.has k then (if s.num = 1 then 2 else 1) else 0
def kindB (b : Bale) (k : Int) : Int := if askE b (inB 1 4 k) 32 = 0 then kindK (kindS b) k else 0
end Go.Proofs.YtkpengeaolcjhaaGreatDoor
/- The plain data of the layer mill: cottons, mills, plans, and what is asked of them: no program in sight. -/
namespace Go.Proofs.YtkpengeaolcjhaaGreatDoor
open Go.RowKit Go.Shelf
set_option linter.unusedSimpArgs false

structure Cot where
  b : Bale
  len : Int
  str : Int
structure Mll where
  lots : Int
  size : Int
  cots : List Cot

/-- Surely of the plain kind. -/
def fitB (x : Cot) : Bool := decide (askE x.b (inB 1 4 1) 32 = 0) && decide (kindB x.b 1 = 2)
def idsL (m : Mll) : List Int := m.cots.map (·.b.id)
def lensL (m : Mll) : List Int := m.cots.map (·.len)
def strsL (m : Mll) : List Int := m.cots.map (·.str)
def fitL (m : Mll) : List Bool := m.cots.map fitB

/-! The checks. -/
def notDown : List Int → Bool
  | a :: b :: l => decide (a ≤ b) && notDown (b :: l)
  | _ => true
def noTwins : List Int → Bool
  | a :: b :: l => !decide (b = a) && noTwins (b :: l)
  | _ => true
def badC (x : Cot) : Bool := !inB 1 60 x.len || !inB 1 200 x.str
def ck0 (m : Mll) : Bool := (inB 1 3 m.lots && inB 2 4 m.size) && decide ((m.cots.length : Int) ≤ 7)
def ck1 (m : Mll) : Bool := !(m.cots.any fun x => !valid x.b)
def ck2 (m : Mll) : Bool := notDown (idsL m) && noTwins (idsL m)
def ck3 (m : Mll) : Bool := !(m.cots.any badC)
def checkM (m : Mll) : Bool := ((ck0 m && ck1 m) && ck2 m) && ck3 m
def cotsR : Int → List Cot → Bool
  | _, [] => true
  | last, x :: l => (((valid x.b && !decide (x.b.id ≤ last)) && inB 1 60 x.len) && inB 1 200 x.str) && cotsR x.b.id l
def headR (m : Mll) : Bool := (inB 1 3 m.lots && inB 2 4 m.size) && !decide (7 < (m.cots.length : Int))
def millR (m : Mll) : Bool := headR m && cotsR 0 m.cots

theorem valid_id {b : Bale} (h : valid b = true) : 1 ≤ b.id ∧ b.id ≤ 9999 := by
  unfold valid chk1 at h
  simp only [Bool.and_eq_true] at h
  have := h.1.1.1
  unfold inB at this
  simp at this
  exact this
theorem cotsR_eq : ∀ (l : List Cot) (last : Int), cotsR last l = ((((!(l.any fun x => !valid x.b)) && notDown (last :: l.map (·.b.id))) && noTwins (last :: l.map (·.b.id))) && !(l.any badC))
  | [], _ => by simp [cotsR, notDown, noTwins]
  | x :: l, last => by
    unfold cotsR
    rw [cotsR_eq l x.b.id]
    simp only [List.any_cons, List.map_cons, notDown, noTwins, badC]
    have e : (!decide (x.b.id ≤ last)) = (decide (last ≤ x.b.id) && !decide (x.b.id = last)) := by
      rw [Bool.eq_iff_iff]; simp; omega
    rw [e]
    generalize valid x.b = a
    generalize decide (last ≤ x.b.id) = b
    generalize decide (x.b.id = last) = c
    generalize inB 1 60 x.len = d
    generalize inB 1 200 x.str = f
    generalize (l.any fun x => !valid x.b) = g
    generalize notDown (x.b.id :: l.map (·.b.id)) = h
    generalize noTwins (x.b.id :: l.map (·.b.id)) = i
    generalize (l.any badC) = j
    cases a <;> cases b <;> cases c <;> cases d <;> cases f <;> cases g <;> cases h <;> cases i <;> cases j <;> rfl
/-- **A mill is valid for the program just if it is for the reference.** -/
theorem millR_eq (m : Mll) : millR m = checkM m := by
  unfold millR checkM headR
  rw [cotsR_eq]
  unfold ck0 ck1 ck2 ck3 idsL
  have e : (!decide (7 < (m.cots.length : Int))) = decide ((m.cots.length : Int) ≤ 7) := by rw [Bool.eq_iff_iff]; simp
  rw [e]
  have k : (!(m.cots.any fun x => !valid x.b)) = true → notDown (0 :: m.cots.map (·.b.id)) = notDown (m.cots.map (·.b.id)) ∧ noTwins (0 :: m.cots.map (·.b.id)) = noTwins (m.cots.map (·.b.id)) := by
    intro h
    cases hc : m.cots with
    | nil => exact ⟨rfl, rfl⟩
    | cons x l =>
      rw [hc] at h
      simp only [List.any_cons, Bool.not_or, Bool.not_not, Bool.and_eq_true] at h
      have := valid_id h.1
      simp only [List.map_cons, notDown, noTwins]
      rw [decide_eq_true (show (0 : Int) ≤ x.b.id by omega), decide_eq_false (show ¬ x.b.id = 0 by omega)]
      simp
  cases hv : (!(m.cots.any fun x => !valid x.b)) with
  | false => simp
  | true =>
    obtain ⟨k1, k2⟩ := k hv
    rw [k1, k2]
    generalize inB 1 3 m.lots = a
    generalize inB 2 4 m.size = b
    generalize decide ((m.cots.length : Int) ≤ 7) = c
    generalize notDown _ = d
    generalize noTwins _ = f
    generalize (m.cots.any badC) = g
    cases a <;> cases b <;> cases c <;> cases d <;> cases f <;> cases g <;> rfl

/-- What a valid mill is. -/
structure Mok (m : Mll) : Prop where
  l1 : 1 ≤ m.lots
  l3 : m.lots ≤ 3
  s2 : 2 ≤ m.size
  s4 : m.size ≤ 4
  n7 : m.cots.length ≤ 7
  v : ∀ x ∈ m.cots, valid x.b = true
  len : ∀ x ∈ m.cots, 1 ≤ x.len ∧ x.len ≤ 60
  str : ∀ x ∈ m.cots, 1 ≤ x.str ∧ x.str ≤ 200
theorem mok_of {m : Mll} (h : checkM m = true) : Mok m := by
  unfold checkM ck0 ck1 ck3 at h
  simp only [Bool.and_eq_true, Bool.not_eq_true', decide_eq_true_eq, List.any_eq_false] at h
  obtain ⟨⟨⟨⟨⟨h1, h2⟩, h3⟩, h4⟩, -⟩, h5⟩ := h
  unfold inB at h1 h2
  simp at h1 h2
  refine ⟨h1.1, h1.2, h2.1, h2.2, by omega, fun x hx => by simpa using h4 x hx, fun x hx => ?_, fun x hx => ?_⟩
  · have := h5 x hx
    unfold badC inB at this
    simp at this
    omega
  · have := h5 x hx
    unfold badC inB at this
    simp at this
    omega

/-! Plans. -/
/-- Counts of the lots, from the first one on. -/
def okLot (size : Int) (b : Bool) (f : List Int) (lot : Nat) : Bool := decide (lot = 0) || (b && !decide (f[lot - 1]?.getD 0 = size))
def upF (f : List Int) (lot : Nat) : List Int := if lot = 0 then f else f.set (lot - 1) (f[lot - 1]?.getD 0 + 1)
def fullF (lots : Nat) (size : Int) : List Int := (List.range 3).map fun i => if i < lots then size else 0
/-- All ways to go on with bales of which it is told whether they are fit, in order. -/
def plansF (lots : Nat) (size : Int) : List Bool → List Int → List (List Int)
  | [], f => if f = fullF lots size then [[]] else []
  | b :: r, f => (List.range (lots + 1)).flatMap fun lot => if okLot size b f lot then (plansF lots size r (upF f lot)).map ((lot : Int) :: ·) else []
def plansL (m : Mll) : List (List Int) := plansF m.lots.toNat m.size (fitL m) [0, 0, 0]
theorem upF_len (f : List Int) (lot : Nat) : (upF f lot).length = f.length := by unfold upF; split <;> simp
/-- How many bales the plan gives to a lot. -/
def inLot (p : List Int) (lot : Int) : Int := (p.filter (· == lot)).length
theorem inLot_cons (k : Int) (p : List Int) (lot : Int) : inLot (k :: p) lot = inLot p lot + (if k = lot then 1 else 0) := by
  unfold inLot
  rw [List.filter_cons]
  by_cases h : k = lot
  · subst h; simp
  · simp [h]
theorem plansF_mem {lots : Nat} {size : Int} (hl : lots ≤ 3) : ∀ {fit : List Bool} {f p : List Int}, f.length = 3 → p ∈ plansF lots size fit f →
    p.length = fit.length ∧ (∀ x ∈ p, 0 ≤ x ∧ x ≤ lots) ∧ ∀ i : Nat, i < 3 → f[i]?.getD 0 + inLot p ((i : Int) + 1) = if i < lots then size else 0
  | [], f, p, hf, h => by
    unfold plansF at h
    split at h
    · rename_i he
      simp at h; subst h
      refine ⟨rfl, fun x hx => by simp at hx, fun i hi => ?_⟩
      rw [he]
      unfold fullF inLot
      simp [hi]
    · simp at h
  | b :: r, f, p, hf, h => by
    unfold plansF at h
    rw [List.mem_flatMap] at h
    obtain ⟨lot, hlot, h⟩ := h
    rw [List.mem_range] at hlot
    split at h
    · rw [List.mem_map] at h
      obtain ⟨q, hq, rfl⟩ := h
      obtain ⟨h1, h2, h3⟩ := plansF_mem hl (by rw [upF_len, hf]) hq
      refine ⟨by simp [h1], fun x hx => ?_, fun i hi => ?_⟩
      · rcases List.mem_cons.1 hx with rfl | hx
        · omega
        · exact h2 x hx
      · rw [← h3 i hi, inLot_cons]
        unfold upF
        by_cases h0 : lot = 0
        · subst h0
          rw [if_pos rfl, if_neg (by omega)]
          omega
        · rw [if_neg h0, List.getElem?_set]
          by_cases he : lot - 1 = i
          · subst he
            rw [if_pos rfl, if_pos (by omega), if_pos (by omega)]
            simp
            omega
          · rw [if_neg he, if_neg (by omega)]
            omega
    · simp at h
theorem plans_mem {m : Mll} (hm : Mok m) {p : List Int} (h : p ∈ plansL m) : p.length = m.cots.length ∧ (∀ x ∈ p, 0 ≤ x ∧ x ≤ m.lots) ∧ ∀ i : Nat, i < 3 → inLot p ((i : Int) + 1) = if (i : Int) < m.lots then m.size else 0 := by
  have := hm.l1; have := hm.l3
  obtain ⟨h1, h2, h3⟩ := plansF_mem (by omega) (by rfl) h
  refine ⟨by rw [h1]; simp [fitL], fun x hx => by have := h2 x hx; omega, fun i hi => ?_⟩
  have e : ([0, 0, 0] : List Int)[i]?.getD 0 = 0 := by
    match i, hi with
    | 0, _ => rfl
    | 1, _ => rfl
    | 2, _ => rfl
  rw [show inLot p ((i : Int) + 1) = ([0, 0, 0] : List Int)[i]?.getD 0 + inLot p ((i : Int) + 1) by rw [e]; omega, h3 i hi]
  by_cases hil : (i : Int) < m.lots
  · rw [if_pos hil, if_pos (by omega)]
  · rw [if_neg hil, if_neg (by omega)]

/-! How uneven a plan is. -/
/-- The numbers of a lot's bales. -/
def lotL (plan vals : List Int) (lot : Int) : List Int := ((plan.zip vals).filter fun x => x.1 == lot).map (·.2)
def maxO : List Int → Int
  | [] => 0
  | x :: l => l.foldl max x
def minO : List Int → Int
  | [] => 0
  | x :: l => l.foldl min x
def farL (l : List Int) : Int := maxO l - minO l
/-- The lists of all lots. -/
def lotsL (lots : Int) (plan vals : List Int) : List (List Int) := (List.range lots.toNat).map fun (i : Nat) => lotL plan vals ((i : Int) + 1)
def farA (ll : List (List Int)) : Int := ll.foldl (fun n l => max n (farL l)) 0
def unev (m : Mll) (plan : List Int) : Int × Int := (farA (lotsL m.lots plan (lensL m)), farA (lotsL m.lots plan (strsL m)))
theorem lotL_mem {plan vals : List Int} {lot x : Int} (h : x ∈ lotL plan vals lot) : x ∈ vals := by
  unfold lotL at h
  rw [List.mem_map] at h
  obtain ⟨⟨a, b⟩, h1, rfl⟩ := h
  exact (List.of_mem_zip (List.mem_filter.1 h1).1).2
theorem lotL_len : ∀ {plan vals : List Int}, plan.length = vals.length → ∀ (lot : Int), ((lotL plan vals lot).length : Int) = inLot plan lot
  | [], [], _, lot => by simp [lotL, inLot]
  | a :: p, v :: vs, h, lot => by
    have ih := lotL_len (plan := p) (vals := vs) (by simpa using h) lot
    rw [inLot_cons, ← ih]
    unfold lotL
    rw [List.zip_cons_cons, List.filter_cons]
    by_cases ha : a = lot
    · subst ha; simp
    · simp [ha]
theorem foldlM_max_le : ∀ (l : List Int) (a : Int), a ≤ l.foldl max a
  | [], a => Int.le_refl a
  | x :: l, a => Int.le_trans (Int.le_max_left a x) (foldlM_max_le l (max a x))
theorem foldlM_min_le : ∀ (l : List Int) (a : Int), l.foldl min a ≤ a
  | [], a => Int.le_refl a
  | x :: l, a => Int.le_trans (foldlM_min_le l (min a x)) (Int.min_le_left a x)
/-! The best plan. -/
def lessU (a b : Int × Int) : Bool := decide (a.1 < b.1) || (decide (a.1 = b.1) && decide (a.2 < b.2))
def cmpM (a b : Int) : Int := if a < b then -1 else if b < a then 1 else 0
def ordU (a b : Int × Int) : Int := if cmpM a.1 b.1 ≠ 0 then cmpM a.1 b.1 else cmpM a.2 b.2
theorem ordU_neg (a b : Int × Int) : decide (ordU a b < 0) = lessU a b := by
  unfold ordU lessU cmpM
  rw [Bool.eq_iff_iff]
  simp only [decide_eq_true_eq, Bool.or_eq_true, Bool.and_eq_true]
  repeat' split
  all_goals omega
def firstStep {α : Type} (less : α → α → Bool) : Option α → α → Option α
  | none, x => some x
  | some b, x => if less x b then some x else some b
def firstM {α : Type} (less : α → α → Bool) (l : List α) : Option α := l.foldl (firstStep less) none
theorem firstM_snoc {α : Type} (less : α → α → Bool) (l : List α) (x : α) : firstM less (l ++ [x]) = firstStep less (firstM less l) x := by simp [firstM]
theorem firstM_mem {α : Type} (less : α → α → Bool) (l : List α) : ∀ (o : Option α) (b : α), l.foldl (firstStep less) o = some b → b ∈ l ∨ o = some b := by
  induction l with
  | nil => intro o b h; exact .inr h
  | cons x l ih =>
    intro o b h
    rcases ih _ b h with h1 | h1
    · exact .inl (by simp [h1])
    · cases o with
      | none => simp [firstStep] at h1; exact .inl (by simp [h1])
      | some c =>
        simp only [firstStep] at h1
        split at h1
        · injection h1 with h1; exact .inl (by simp [h1])
        · exact .inr h1
def bestP (m : Mll) : Option (List Int) := firstM (fun a b => lessU (unev m a) (unev m b)) (plansL m)
theorem bestP_mem {m : Mll} {p : List Int} (h : bestP m = some p) : p ∈ plansL m := by
  rcases firstM_mem _ _ none p h with h | h
  · exact h
  · cases h
end Go.Proofs.YtkpengeaolcjhaaGreatDoor
/- Cottons and mills as they lie in memory; small plain laws of lists that are asked. -/
namespace Go.Proofs.YtkpengeaolcjhaaGreatDoor
open Go.RowKit Go.Shelf
set_option linter.unusedSimpArgs false

/-- A cotton as it lies in memory: its two lists by their slices. -/
structure Rc where
  c : Cot
  da : Option Addr
  dn : Nat
  dc : Nat
  wa : Option Addr
  wn : Nat
  wc : Nat
abbrev Rc.dv (r : Rc) : Value := .slice r.da r.dn r.dc
abbrev Rc.wv (r : Rc) : Value := .slice r.wa r.wn r.wc
abbrev encC (r : Rc) : List Value := [.int .i64 r.c.b.id, .int .i64 r.c.b.layers, .int .i64 r.c.b.dry.lo, .int .i64 r.c.b.dry.hi, .slice r.da r.dn r.dc, .slice r.wa r.wn r.wc, .int .i64 r.c.len, .int .i64 r.c.str]
abbrev valC (r : Rc) : Value := .agg #[.int .i64 r.c.b.id, .int .i64 r.c.b.layers, .int .i64 r.c.b.dry.lo, .int .i64 r.c.b.dry.hi, .slice r.da r.dn r.dc, .slice r.wa r.wn r.wc, .int .i64 r.c.len, .int .i64 r.c.str]
abbrev SlC (w : World) (v : Value) (l : List Rc) : Prop := Sl encC 8 w v l
/-- The lists of all cottons are as they are told. -/
def DwL (w : World) (l : List Rc) : Prop := ∀ r ∈ l, SlD w (.slice r.da r.dn r.dc) r.c.b.draws ∧ SlW w (.slice r.wa r.wn r.wc) r.c.b.weighs
theorem DwL.ext {w w' : World} {l : List Rc} (h : DwL w l) (e : Ext w w') : DwL w' l := fun r hr => ⟨(h r hr).1.ext e, (h r hr).2.ext e⟩
theorem DwL.nil (w : World) : DwL w [] := fun r hr => by simp at hr
/-- Cottons at once: the slice, and all their lists. -/
def MlC (w : World) (v : Value) (l : List Rc) : Prop := SlC w v l ∧ DwL w l
theorem MlC.ext {w w' : World} {v : Value} {l : List Rc} (h : MlC w v l) (e : Ext w w') : MlC w' v l := ⟨h.1.ext e, h.2.ext e⟩
/-- The plain mill. -/
abbrev mOf (lots size : Int) (l : List Rc) : Mll := ⟨lots, size, l.map (·.c)⟩
theorem SlC.cells {w W : World} {b off k : Nat} {x : Rc} (h : ∀ W, Ext w W → ∀ j u, (encC x)[j]? = some u → W.cell? ⟨b, off + k * 8 + j, none⟩ = some u) (hW : Ext w W) :
    W.cell? ⟨b, off + k * 8, none⟩ = some (.int .i64 x.c.b.id) ∧ W.cell? ⟨b, off + k * 8 + 1, none⟩ = some (.int .i64 x.c.b.layers) ∧ W.cell? ⟨b, off + k * 8 + 2, none⟩ = some (.int .i64 x.c.b.dry.lo) ∧ W.cell? ⟨b, off + k * 8 + 3, none⟩ = some (.int .i64 x.c.b.dry.hi) ∧
    W.cell? ⟨b, off + k * 8 + 4, none⟩ = some (.slice x.da x.dn x.dc) ∧ W.cell? ⟨b, off + k * 8 + 5, none⟩ = some (.slice x.wa x.wn x.wc) ∧ W.cell? ⟨b, off + k * 8 + 6, none⟩ = some (.int .i64 x.c.len) ∧ W.cell? ⟨b, off + k * 8 + 7, none⟩ = some (.int .i64 x.c.str) :=
  ⟨by simpa using h W hW 0 _ rfl, h W hW 1 _ rfl, h W hW 2 _ rfl, h W hW 3 _ rfl, h W hW 4 _ rfl, h W hW 5 _ rfl, h W hW 6 _ rfl, h W hW 7 _ rfl⟩

theorem notDown_iff : ∀ (l : List Int), notDown l = true ↔ ∀ (k : Nat) (a b : Int), l[k]? = some a → l[k + 1]? = some b → a ≤ b
  | [] => by simp [notDown]
  | [x] => by simp [notDown]
  | x :: y :: l => by
    rw [notDown, Bool.and_eq_true, notDown_iff (y :: l), decide_eq_true_eq]
    constructor
    · rintro ⟨h1, h2⟩ k a b ha hb
      cases k with
      | zero =>
        simp at ha hb
        rw [← ha, ← hb]; exact h1
      | succ k => exact h2 k a b (by simpa using ha) (by simpa using hb)
    · intro h
      exact ⟨h 0 x y rfl rfl, fun k a b ha hb => h (k + 1) a b (by simpa using ha) (by simpa using hb)⟩
theorem noTwins_iff : ∀ (l : List Int), noTwins l = true ↔ ∀ (k : Nat) (a b : Int), l[k]? = some a → l[k + 1]? = some b → b ≠ a
  | [] => by simp [noTwins]
  | [x] => by simp [noTwins]
  | x :: y :: l => by
    rw [noTwins, Bool.and_eq_true, noTwins_iff (y :: l)]
    constructor
    · rintro ⟨h1, h2⟩ k a b ha hb
      cases k with
      | zero =>
        simp at ha hb
        rw [← ha, ← hb]; simpa using h1
      | succ k => exact h2 k a b (by simpa using ha) (by simpa using hb)
    · intro h
      exact ⟨by simpa using h 0 x y rfl rfl, fun k a b ha hb => h (k + 1) a b (by simpa using ha) (by simpa using hb)⟩
end Go.Proofs.YtkpengeaolcjhaaGreatDoor
/- How many lots there can be: the program counts windows from the shortest length on, the reference goes through all choices: both tell the same. No program in sight. -/
namespace Go.Proofs.YtkpengeaolcjhaaGreatDoor
set_option linter.unusedSimpArgs false

/-- The first s of a list differ by L at the most. -/
def win (L : Int) (s : Nat) (l : List Int) : Bool := decide (s ≤ l.length) && decide (l[s - 1]?.getD 0 - l[0]?.getD 0 ≤ L)
/-- Windows, from the first number on. -/
def gr (L : Int) (s : Nat) : List Int → Nat
  | [] => 0
  | x :: l => if win L s (x :: l) then 1 + gr L s (l.drop (s - 1)) else gr L s l
termination_by l => l.length
decreasing_by all_goals (simp; try omega)
theorem gr_nil (L : Int) (s : Nat) : gr L s [] = 0 := by rw [gr]
theorem gr_cons (L : Int) (s : Nat) (x : Int) (l : List Int) : gr L s (x :: l) = if win L s (x :: l) then 1 + gr L s (l.drop (s - 1)) else gr L s l := by rw [gr]
theorem gr_short (L : Int) (s : Nat) : ∀ (l : List Int), l.length < s → gr L s l = 0
  | [], _ => gr_nil L s
  | x :: l, h => by
    rw [gr_cons, if_neg (by unfold win; simp only [List.length_cons] at h ⊢; simp; omega), gr_short L s l (by simp at h; omega)]
theorem gr_mono_aux (L : Int) (s : Nat) (hs : 1 ≤ s) : ∀ (n : Nat), (∀ (x : Int) (l : List Int), l.length + 1 ≤ n → gr L s l ≤ gr L s (x :: l)) ∧ (∀ (l : List Int) (k : Nat), l.length ≤ n → k ≤ s → gr L s l ≤ 1 + gr L s (l.drop k)) := by
  intro n
  induction n with
  | zero =>
    refine ⟨fun x l h => by omega, fun l k h _ => ?_⟩
    have : l = [] := List.eq_nil_of_length_eq_zero (by omega)
    subst this
    rw [gr_nil]; omega
  | succ n ih =>
    obtain ⟨ihm, ihc⟩ := ih
    have hdrop : ∀ (l : List Int) (j : Nat), l.length ≤ n → gr L s (l.drop j) ≤ gr L s l := by
      intro l
      induction l with
      | nil => intro j _; simp
      | cons x l ihl =>
        intro j hl
        cases j with
        | zero => simp
        | succ j =>
          simp only [List.drop_succ_cons]
          exact Nat.le_trans (ihl j (by simp at hl; omega)) (ihm x l (by simp at hl; omega))
    refine ⟨fun x l h => ?_, fun l k h hk => ?_⟩
    · rw [gr_cons]
      split
      · exact ihc l (s - 1) (by omega) (by omega)
      · exact Nat.le_refl _
    · cases l with
      | nil => rw [gr_nil]; omega
      | cons y l =>
        cases k with
        | zero => simp
        | succ k =>
          rw [List.drop_succ_cons, gr_cons]
          simp only [List.length_cons] at h
          split
          · have h1 : (l.drop k).drop (s - 1 - k) = l.drop (s - 1) := by rw [List.drop_drop]; congr 1; omega
            rw [← h1]
            have := hdrop (l.drop k) (s - 1 - k) (by rw [List.length_drop]; omega)
            omega
          · exact ihc l k (by omega) (by omega)
theorem gr_mono (L : Int) (s : Nat) (hs : 1 ≤ s) (x : Int) (l : List Int) : gr L s l ≤ gr L s (x :: l) := (gr_mono_aux L s hs (l.length + 1)).1 x l (Nat.le_refl _)
/-- Each window of the one is a window of the other. -/
def WinLe (L : Int) (s : Nat) (ys zs : List Int) : Prop := ys.length = zs.length ∧ ∀ (i : Nat) (a b c d : Int), ys[i]? = some a → ys[i + (s - 1)]? = some b → zs[i]? = some c → zs[i + (s - 1)]? = some d → b - a ≤ L → d - c ≤ L
theorem WinLe.drop {L : Int} {s : Nat} {ys zs : List Int} (h : WinLe L s ys zs) (k : Nat) : WinLe L s (ys.drop k) (zs.drop k) := by
  refine ⟨by rw [List.length_drop, List.length_drop, h.1], fun i a b c d ha hb hc hd => ?_⟩
  rw [List.getElem?_drop] at ha hb hc hd
  exact h.2 (k + i) a b c d ha (by rw [← hb]; congr 1; omega) hc (by rw [← hd]; congr 1; omega)
theorem gr_le (L : Int) (s : Nat) (hs : 1 ≤ s) : ∀ (n : Nat) (ys zs : List Int), ys.length ≤ n → WinLe L s ys zs → gr L s ys ≤ gr L s zs := by
  intro n
  induction n with
  | zero =>
    intro ys zs hn h
    have : ys = [] := List.eq_nil_of_length_eq_zero (by omega)
    subst this
    rw [gr_nil]; omega
  | succ n ih =>
    intro ys zs hn h
    match ys, zs, h with
    | [], _, _ => rw [gr_nil]; omega
    | y :: ys, [], h => have := h.1; simp at this
    | y :: ys, z :: zs, h =>
      have hl := h.1
      simp only [List.length_cons] at hl hn
      have h1 : WinLe L s ys zs := by have := h.drop 1; simpa using this
      rw [gr_cons L s y]
      split
      · rename_i hw
        have hz : win L s (z :: zs) = true := by
          unfold win at hw ⊢
          simp only [Bool.and_eq_true, decide_eq_true_eq, List.length_cons] at hw ⊢
          refine ⟨by omega, ?_⟩
          obtain ⟨b, hb⟩ : ∃ b, (y :: ys)[s - 1]? = some b := ⟨_, List.getElem?_eq_getElem (by simp; omega)⟩
          obtain ⟨d, hd⟩ : ∃ d, (z :: zs)[s - 1]? = some d := ⟨_, List.getElem?_eq_getElem (by simp; omega)⟩
          have := h.2 0 y b z d rfl (by rw [Nat.zero_add]; exact hb) rfl (by rw [Nat.zero_add]; exact hd)
          rw [hb] at hw
          rw [hd]
          exact this hw.2
        rw [gr_cons L s z, if_pos hz]
        have := ih (ys.drop (s - 1)) (zs.drop (s - 1)) (by rw [List.length_drop]; omega) (h1.drop _)
        omega
      · exact Nat.le_trans (ih ys zs (by omega) h1) (gr_mono L s hs z zs)

/-! The reference goes through all choices. -/
/-- x's lot wants some more, of those that come; who was left out stays. -/
def chsG (L : Int) (g : List Int → Nat) (x : Int) : List Int → List Int → Nat → Nat
  | sk, rest, 0 => 1 + g (sk ++ rest)
  | _, [], _ + 1 => 0
  | sk, y :: b, m + 1 => max (if y - x ≤ L then chsG L g x sk b m else 0) (chsG L g x (sk ++ [y]) b (m + 1))
theorem chsG_zero (L : Int) (g : List Int → Nat) (x : Int) (sk rest : List Int) : chsG L g x sk rest 0 = 1 + g (sk ++ rest) := by cases rest <;> rw [chsG]
/-- Of bales that are not used yet. -/
def grpF (L : Int) (s : Nat) : Nat → List Int → Nat
  | 0, _ => 0
  | _ + 1, [] => 0
  | f + 1, x :: xs => max (grpF L s f xs) (chsG L (grpF L s f) x [] xs (s - 1))
theorem pair_le {l : List Int} (h : l.Pairwise (· ≤ ·)) {i j : Nat} {a b : Int} (ha : l[i]? = some a) (hb : l[j]? = some b) (hij : i ≤ j) : a ≤ b := by
  obtain ⟨h1, rfl⟩ := List.getElem?_eq_some_iff.1 ha
  obtain ⟨h2, rfl⟩ := List.getElem?_eq_some_iff.1 hb
  by_cases e : i = j
  · subst e; exact Int.le_refl _
  · exact List.pairwise_iff_getElem.1 h i j h1 h2 (by omega)
theorem chs_le {L : Int} {s f : Nat} (hs : 2 ≤ s) {g : List Int → Nat} (hg : ∀ l : List Int, l.Pairwise (· ≤ ·) → l.length ≤ f → g l = gr L s l) {x : Int} : ∀ (rest P sk : List Int) (m : Nat), (P ++ rest).Pairwise (· ≤ ·) → (∀ a ∈ P ++ rest, x ≤ a) → (P ++ rest).length ≤ f → P.length = sk.length + (s - 1 - m) → m ≤ s - 1 →
    (∀ (i : Nat) (a b : Int), sk[i]? = some a → P[i + (s - 1 - m)]? = some b → a ≤ b) → (m = 0 → ∀ a ∈ P, a ≤ x + L) → (sk ++ rest).Pairwise (· ≤ ·) → chsG L g x sk rest m ≤ gr L s (x :: (P ++ rest)) := by
  intro rest
  have leaf : ∀ (rest P sk : List Int), (P ++ rest).Pairwise (· ≤ ·) → (∀ a ∈ P ++ rest, x ≤ a) → (P ++ rest).length ≤ f → P.length = sk.length + (s - 1) → (∀ (i : Nat) (a b : Int), sk[i]? = some a → P[i + (s - 1)]? = some b → a ≤ b) → (∀ a ∈ P, a ≤ x + L) → (sk ++ rest).Pairwise (· ≤ ·) → 1 + g (sk ++ rest) ≤ gr L s (x :: (P ++ rest)) := by
    intro rest P sk h1 h2 h3 h4 h5 h6 h7
    have hw : win L s (x :: (P ++ rest)) = true := by
      unfold win
      simp only [Bool.and_eq_true, decide_eq_true_eq, List.length_cons, List.length_append]
      refine ⟨by omega, ?_⟩
      obtain ⟨t, ht⟩ : ∃ t, s - 1 = t + 1 := ⟨s - 2, by omega⟩
      rw [ht, List.getElem?_cons_succ, List.getElem?_append_left (by omega)]
      obtain ⟨a, ha⟩ : ∃ a, P[t]? = some a := ⟨_, List.getElem?_eq_getElem (by omega)⟩
      rw [ha]
      have := h6 a (List.mem_of_getElem? ha)
      simp
      omega
    rw [gr_cons, if_pos hw, hg _ h7 (by simp at h3 ⊢; omega)]
    refine Nat.add_le_add_left (gr_le L s (by omega) _ _ _ (Nat.le_refl _) ⟨by simp; omega, ?_⟩) 1
    intro i a b c d ha hb hc hd hab
    rw [List.getElem?_drop] at hc hd
    by_cases hi : i + (s - 1) < sk.length
    · rw [List.getElem?_append_left (by omega)] at hd
      have := h6 d (List.mem_of_getElem? hd)
      have := h2 c (List.mem_of_getElem? hc)
      omega
    · have hbd : b = d := by
        rw [List.getElem?_append_right (by omega)] at hb hd
        rw [show s - 1 + (i + (s - 1)) - P.length = i + (s - 1) - sk.length by omega, hb] at hd
        exact Option.some.inj hd
      have hac : a ≤ c := by
        by_cases hi2 : i < sk.length
        · rw [List.getElem?_append_left hi2] at ha
          rw [List.getElem?_append_left (by omega)] at hc
          exact h5 i a c ha (by rw [← hc]; congr 1; omega)
        · rw [List.getElem?_append_right (by omega)] at ha hc
          rw [show s - 1 + i - P.length = i - sk.length by omega, ha] at hc
          injection hc with hc
          omega
      omega
  induction rest with
  | nil =>
    intro P sk m h1 h2 h3 h4 hm h5 h6 h7
    cases m with
    | zero => rw [chsG_zero]; exact leaf [] P sk h1 h2 h3 h4 h5 (h6 rfl) h7
    | succ m => rw [chsG]; omega
  | cons y b ih =>
    intro P sk m h1 h2 h3 h4 hm h5 h6 h7
    cases m with
    | zero => rw [chsG_zero]; exact leaf (y :: b) P sk h1 h2 h3 h4 h5 (h6 rfl) h7
    | succ m =>
      have e : P ++ y :: b = (P ++ [y]) ++ b := by simp
      have hPy : ∀ a ∈ P, a ≤ y := fun a ha => (List.pairwise_append.1 h1).2.2 a ha y (by simp)
      rw [chsG, e]
      rw [e] at h1 h2 h3
      refine Nat.max_le.2 ⟨?_, ?_⟩
      · split
        · rename_i hy
          refine ih (P ++ [y]) sk m h1 h2 h3 (by simp; omega) (by omega) (fun i a c ha hc => ?_) (fun _ a ha => ?_) (h7.sublist (by simp))
          · have hi := (List.getElem?_eq_some_iff.1 ha).1
            obtain ⟨q, hq⟩ : ∃ q, P[i + (s - 1 - (m + 1))]? = some q := ⟨_, List.getElem?_eq_getElem (by omega)⟩
            have h8 := h5 i a q ha hq
            have h9 : q ≤ c := by
              refine pair_le (h1.sublist (List.sublist_append_left _ b)) (i := i + (s - 1 - (m + 1))) (j := i + (s - 1 - m)) ?_ hc (by omega)
              rw [List.getElem?_append_left (by omega)]; exact hq
            omega
          · rcases List.mem_append.1 ha with ha | ha
            · have := hPy a ha; omega
            · simp at ha; omega
        · omega
      · refine ih (P ++ [y]) (sk ++ [y]) (m + 1) h1 h2 h3 (by simp; omega) hm (fun i a c ha hc => ?_) (fun h => by omega) (by simpa using h7)
        by_cases hi : i < sk.length
        · rw [List.getElem?_append_left hi] at ha
          rw [List.getElem?_append_left (by omega)] at hc
          exact h5 i a c ha hc
        · have hl := (List.getElem?_eq_some_iff.1 ha).1
          simp at hl
          have hie : i = sk.length := by omega
          subst hie
          rw [List.getElem?_append_right (by omega)] at ha hc
          rw [show sk.length + (s - 1 - (m + 1)) - P.length = 0 by omega] at hc
          simp at ha hc
          omega
theorem chs_ge {L : Int} {g : List Int → Nat} {x : Int} : ∀ (m : Nat) (rest sk : List Int), m ≤ rest.length → (∀ (i : Nat) (y : Int), i < m → rest[i]? = some y → y - x ≤ L) → 1 + g (sk ++ rest.drop m) ≤ chsG L g x sk rest m
  | 0, rest, sk, _, _ => by rw [chsG_zero]; simp
  | m + 1, [], sk, h, _ => by simp at h
  | m + 1, y :: b, sk, h, hy => by
    rw [chsG, if_pos (hy 0 y (by omega) rfl)]
    have := chs_ge (L := L) (g := g) (x := x) m b sk (by simpa using h) (fun i z hi hz => hy (i + 1) z (by omega) (by simpa using hz))
    simp only [List.drop_succ_cons]
    omega
/-- **The windows are all that there is.** -/
theorem grp_eq {L : Int} {s : Nat} (hs : 2 ≤ s) : ∀ (f : Nat) (l : List Int), l.Pairwise (· ≤ ·) → l.length ≤ f → grpF L s f l = gr L s l
  | 0, l, _, h => by
    have : l = [] := List.eq_nil_of_length_eq_zero (by omega)
    subst this
    rw [grpF, gr_nil]
  | f + 1, [], _, _ => by rw [grpF, gr_nil]
  | f + 1, x :: xs, h, hl => by
    have hx := List.pairwise_cons.1 h
    have hlx : xs.length ≤ f := by simpa using hl
    have ih := fun l h1 h2 => grp_eq (L := L) hs f l h1 h2
    rw [grpF, ih xs hx.2 hlx]
    have hup := chs_le (L := L) (s := s) (f := f) hs ih (x := x) xs [] [] (s - 1) hx.2 hx.1 hlx (by simp) (Nat.le_refl _) (fun i a b ha _ => by simp at ha) (fun hz a ha => by simp at ha) hx.2
    rw [List.nil_append] at hup
    have hmo := gr_mono L s (by omega) x xs
    refine Nat.le_antisymm (Nat.max_le.2 ⟨hmo, hup⟩) ?_
    rw [gr_cons]
    split
    · rename_i hw
      unfold win at hw
      simp only [Bool.and_eq_true, decide_eq_true_eq, List.length_cons] at hw
      have hge := chs_ge (L := L) (g := grpF L s f) (x := x) (s - 1) xs [] (by omega) (fun i y hi hy => by
        obtain ⟨t, ht⟩ : ∃ t, s - 1 = t + 1 := ⟨s - 2, by omega⟩
        have h2 := hw.2
        rw [ht, List.getElem?_cons_succ] at h2
        obtain ⟨z, hz⟩ : ∃ z, xs[t]? = some z := ⟨_, List.getElem?_eq_getElem (by omega)⟩
        rw [hz] at h2
        simp at h2
        have := pair_le hx.2 hy hz (by omega)
        omega)
      rw [List.nil_append, ih (xs.drop (s - 1)) (hx.2.sublist (List.drop_sublist _ _)) (by rw [List.length_drop]; omega)] at hge
      omega
    · omega
end Go.Proofs.YtkpengeaolcjhaaGreatDoor
