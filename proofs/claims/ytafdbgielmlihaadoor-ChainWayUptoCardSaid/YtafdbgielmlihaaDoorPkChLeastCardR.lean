/- Passes: the houses that both sell and buy in the closing; the reference's. -/
import Derived.Test.YtafdbgielmlihaaDoorPkChLeastCardQ
import Derived.Test.YtafdbgielmlihaaDoorPkChLeastCardN
import Derived.Test.YtafdbgielmlihaaDoorPkChLeastCardD
import Derived.Laws.ResultCell
import Derived.Test.YtafdbgielmlihaaDoorPkChLeastCardO
namespace Go.Proofs.YtafdbgielmlihaaDoor
open Go.RowKit Go.Shelf Go.Lib
set_option maxRecDepth 100000
set_option linter.unusedSimpArgs false

def buysB (P : List (Sale × Int)) (h : Int) : Bool := P.any fun p => decide (0 < p.2) && decide (p.1.buyer = h)
def sellsB (P : List (Sale × Int)) (h : Int) : Bool := P.any fun p => decide (0 < p.2) && decide (p.1.seller = h)
def passB (c : Chn) (l : List Int) (h : Int) : Bool := sellsB (c.sales.zip l) h && buysB (c.sales.zip l) h
def passL (c : Chn) (l : List Int) : List Int := c.houses.filter (passB c l)
def passesL (c : Chn) (l : List Int) : List Int := if checkP c then passL c l else []
theorem zip_snoc {c : Chn} {l : List Int} {i : Nat} {x : Sale} {y : Int} (hx : c.sales[i]? = some x) (hy : l[i]? = some y) : (c.sales.zip l).take (i + 1) = (c.sales.zip l).take i ++ [(x, y)] := by
  rw [List.take_add_one, List.getElem?_zip_eq_some (z := (x, y)) |>.2 ⟨hx, hy⟩]
  rfl
theorem buys_snoc {c : Chn} {l : List Int} {i : Nat} {x : Sale} {y : Int} (h : Int) (hx : c.sales[i]? = some x) (hy : l[i]? = some y) : buysB ((c.sales.zip l).take (i + 1)) h = (buysB ((c.sales.zip l).take i) h || (decide (0 < y) && decide (x.buyer = h))) := by
  rw [zip_snoc hx hy]
  simp [buysB]
theorem sells_snoc {c : Chn} {l : List Int} {i : Nat} {x : Sale} {y : Int} (h : Int) (hx : c.sales[i]? = some x) (hy : l[i]? = some y) : sellsB ((c.sales.zip l).take (i + 1)) h = (sellsB ((c.sales.zip l).take i) h || (decide (0 < y) && decide (x.seller = h))) := by
  rw [zip_snoc hx hy]
  simp [sellsB]
theorem zip_all {c : Chn} {l : List Int} {i : Nat} (h : c.sales.length ≤ i) : (c.sales.zip l).take i = c.sales.zip l := List.take_of_length_le (by rw [List.length_zip]; omega)
theorem pass_snoc {c : Chn} {l : List Int} {k : Nat} {h : Int} (hk : c.houses[k]? = some h) : (c.houses.take (k + 1)).filter (passB c l) = (c.houses.take k).filter (passB c l) ++ (if passB c l h then [h] else []) := by
  rw [List.take_add_one, hk, List.filter_append]
  simp [List.filter_cons]
end Go.Proofs.YtafdbgielmlihaaDoor
/- Hands, plain; the reference's on. -/
namespace Go.Proofs.YtafdbgielmlihaaDoor
open Go.RowKit Go.Shelf Go.Lib
set_option maxRecDepth 100000
set_option linter.unusedSimpArgs false

/-- The first sale of the house that still has bales. -/
def onB (h : Int) (p : Sale × Int) : Bool := decide (p.1.seller = h) && decide (0 < p.2)
def onK (c : Chn) (m : List Int) (h : Int) : Option Nat := (c.sales.zip m).findIdx? (onB h)
theorem on_some {c : Chn} {m : List Int} {h : Int} {i : Nat} {x : Sale} {y : Int} (hx : c.sales[i]? = some x) (hy : m[i]? = some y) (hb : ((c.sales.zip m).take i).any (onB h) = false) (h1 : x.seller = h) (h2 : 0 < y) : onK c m h = some i := by
  unfold onK
  have hz : (c.sales.zip m)[i]? = some (x, y) := List.getElem?_zip_eq_some.2 ⟨hx, hy⟩
  obtain ⟨hi, he⟩ := List.getElem?_eq_some_iff.1 hz
  rw [List.findIdx?_eq_some_iff_getElem]
  refine ⟨hi, by rw [he]; simp [onB, h1, h2], fun j hj => ?_⟩
  have hm : (c.sales.zip m)[j] ∈ (c.sales.zip m).take i := by
    rw [List.mem_iff_getElem?]
    exact ⟨j, by rw [List.getElem?_take, if_pos hj]; exact List.getElem?_eq_getElem (by omega)⟩
  have := List.any_eq_false.1 hb _ hm
  simpa using this
theorem on_none {c : Chn} {m : List Int} {h : Int} {i : Nat} (hi : c.sales.length ≤ i) (hb : ((c.sales.zip m).take i).any (onB h) = false) : onK c m h = none := by
  unfold onK
  rw [zip_all hi] at hb
  rw [List.findIdx?_eq_none_iff]
  intro p hp
  have := List.any_eq_false.1 hb p hp
  simpa using this
theorem on_snoc {c : Chn} {m : List Int} {h : Int} {i : Nat} {x : Sale} {y : Int} (hx : c.sales[i]? = some x) (hy : m[i]? = some y) : ((c.sales.zip m).take (i + 1)).any (onB h) = (((c.sales.zip m).take i).any (onB h) || (decide (x.seller = h) && decide (0 < y))) := by
  rw [zip_snoc hx hy]
  simp [onB]
end Go.Proofs.YtafdbgielmlihaaDoor
/- Hands, plain: a bale's way to where it stays, and what each house hands to each. -/
namespace Go.Proofs.YtafdbgielmlihaaDoor
open Go.RowKit Go.Shelf

def mu (m : List Int) : Nat := (m.map Int.toNat).sum
theorem mu_set : ∀ (m : List Int) (i : Nat) (y : Int), m[i]? = some y → 0 < y → mu (m.set i (y - 1)) + 1 = mu m
  | [], _, _, h, _ => by simp at h
  | z :: m, 0, y, h, hy => by
    simp at h
    subst h
    simp only [mu, List.set_cons_zero, List.map_cons, List.sum_cons]
    omega
  | z :: m, i + 1, y, h, hy => by
    have := mu_set m i y (by simpa using h) hy
    simp only [mu, List.set_cons_succ, List.map_cons, List.sum_cons] at this ⊢
    omega
theorem on_ok {c : Chn} {m : List Int} {h : Int} {i : Nat} (hk : onK c m h = some i) : ∃ x y, c.sales[i]? = some x ∧ m[i]? = some y ∧ x.seller = h ∧ 0 < y := by
  unfold onK at hk
  rw [List.findIdx?_eq_some_iff_getElem] at hk
  obtain ⟨hi, hp, -⟩ := hk
  have hz : (c.sales.zip m)[i]? = some ((c.sales.zip m)[i]) := List.getElem?_eq_getElem hi
  obtain ⟨h1, h2⟩ := List.getElem?_zip_eq_some.1 hz
  unfold onB at hp
  simp at hp
  exact ⟨_, _, h1, h2, by simpa using hp.1, by simpa using hp.2⟩
/-- One bale goes on until no sale takes it further. -/
def followF (c : Chn) : Nat → List Int → Int → List Int × Int
  | 0, m, h => (m, h)
  | k + 1, m, h => match onK c m h with
    | none => (m, h)
    | some i => match c.sales[i]?, m[i]? with
      | some x, some y => followF c k (m.set i (y - 1)) x.buyer
      | _, _ => (m, h)
def follow (c : Chn) (m : List Int) (h : Int) : List Int × Int := followF c (mu m) m h
theorem follow_fuel {c : Chn} : ∀ (k : Nat) (m : List Int) (h : Int), mu m ≤ k → followF c k m h = follow c m h := by
  have key : ∀ (k j : Nat) (m : List Int) (h : Int), mu m ≤ k → mu m ≤ j → followF c k m h = followF c j m h := by
    intro k
    induction k with
    | zero =>
      intro j m h hk hj
      cases j with
      | zero => rfl
      | succ j =>
        unfold followF
        cases ho : onK c m h with
        | none => rfl
        | some i =>
          obtain ⟨x, y, h1, h2, -, h4⟩ := on_ok ho
          have := mu_set m i y h2 h4
          omega
    | succ k ih =>
      intro j m h hk hj
      cases ho : onK c m h with
      | none =>
        have e1 : followF c (k + 1) m h = (m, h) := by unfold followF; rw [ho]
        rw [e1]
        cases j with
        | zero => rfl
        | succ j => unfold followF; rw [ho]
      | some i =>
        obtain ⟨x, y, h1, h2, -, h4⟩ := on_ok ho
        have hm := mu_set m i y h2 h4
        cases j with
        | zero => omega
        | succ j =>
          unfold followF
          rw [ho]
          simp only [h1, h2]
          exact ih j _ _ (by omega) (by omega)
  intro k m h hk
  exact key k (mu m) m h hk (Nat.le_refl _)
theorem follow_stop {c : Chn} {m : List Int} {h : Int} (ho : onK c m h = none) : follow c m h = (m, h) := by
  rw [← follow_fuel (mu m + 1) m h (by omega)]
  unfold followF
  rw [ho]
theorem follow_step {c : Chn} {m : List Int} {h : Int} {i : Nat} {x : Sale} {y : Int} (ho : onK c m h = some i) (hx : c.sales[i]? = some x) (hy : m[i]? = some y) : follow c m h = follow c (m.set i (y - 1)) x.buyer := by
  obtain ⟨x', y', h1, h2, -, h4⟩ := on_ok ho
  rw [hy] at h2
  injection h2 with h2
  subst h2
  have hm := mu_set m i y hy h4
  rw [← follow_fuel (mu (m.set i (y - 1)) + 1) m h (by omega)]
  unfold followF
  rw [ho]
  simp only [hx, hy]
  rfl
/-- What holds at each step holds at the end. -/
theorem follow_ind {c : Chn} {P : List Int → Int → Prop} (hs : ∀ (m : List Int) (h : Int) (i : Nat) (x : Sale) (y : Int), onK c m h = some i → c.sales[i]? = some x → m[i]? = some y → 0 < y → P m h → P (m.set i (y - 1)) x.buyer) :
    ∀ (k : Nat) (m : List Int) (h : Int), mu m ≤ k → P m h → P (follow c m h).1 (follow c m h).2 := by
  intro k
  induction k with
  | zero =>
    intro m h hk hP
    cases ho : onK c m h with
    | none => rw [follow_stop ho]; exact hP
    | some i =>
      obtain ⟨x, y, h1, h2, -, h4⟩ := on_ok ho
      have := mu_set m i y h2 h4
      omega
  | succ k ih =>
    intro m h hk hP
    cases ho : onK c m h with
    | none => rw [follow_stop ho]; exact hP
    | some i =>
      obtain ⟨x, y, h1, h2, -, h4⟩ := on_ok ho
      have hm := mu_set m i y h2 h4
      rw [follow_step ho h1 h2]
      exact ih _ _ (by omega) (hs m h i x y ho h1 h2 h4 hP)
/-- Moves stay moves; a house stays a house. -/
structure Mvs (c : Chn) (m : List Int) : Prop where
  l : m.length = c.sales.length
  b : ∀ y ∈ m, 0 ≤ y ∧ y ≤ 9
theorem follow_ok {c : Chn} (hR : Right c) {m : List Int} {h : Int} (hm : Mvs c m) (hh : h ∈ c.houses) : Mvs c (follow c m h).1 ∧ (follow c m h).2 ∈ c.houses := by
  refine follow_ind (P := fun m h => Mvs c m ∧ h ∈ c.houses) ?_ (mu m) m h (Nat.le_refl _) ⟨hm, hh⟩
  rintro m h i x y ho hx hy h0 ⟨h1, h2⟩
  refine ⟨⟨by rw [List.length_set]; exact h1.l, fun z hz => ?_⟩, (hR.sale x (List.mem_of_getElem? hx)).2.2.1⟩
  rcases List.mem_or_eq_of_mem_set hz with hz | rfl
  · exact h1.b z hz
  · have := h1.b y (List.mem_of_getElem? hy)
    omega
end Go.Proofs.YtafdbgielmlihaaDoor
/- The reference's Hands, part one: a bale's way. -/
namespace Go.Proofs.YtafdbgielmlihaaDoor
open Go.RowKit Go.Shelf Go.Lib
set_option maxRecDepth 100000
set_option linter.unusedSimpArgs false

theorem RowX.alloc {w : World} {g : Nat} {m : List Int} (h : RowX w g m) (o : Obj) : RowX (w.alloc o) g m := h.ext (Ext.al _ _)
end Go.Proofs.YtafdbgielmlihaaDoor
/- Hands, plain: what each house hands to each. -/
namespace Go.Proofs.YtafdbgielmlihaaDoor
open Go.RowKit Go.Shelf

/-- So many bales of the house go on; a row counts where they stay. -/
def handRow (c : Chn) (h : Int) : Nat → List Int × List Int → List Int × List Int
  | 0, s => s
  | k + 1, s => ((follow c (handRow c h k s).1 h).1, bump (handRow c h k s).2 (houseI c (follow c (handRow c h k s).1 h).2).toNat 1)
structure Hnd where
  a : Int
  b : Int
  n : Int
def outRow (c : Chn) (h : Int) (row : List Int) : List Hnd := ((c.houses.zip row).filter fun p => decide (0 < p.2)).map fun p => ⟨h, p.1, p.2⟩
/-- The first k houses are through. -/
def handsTo (c : Chn) (l gets : List Int) : Nat → List Int × List Hnd
  | 0 => (l, [])
  | k + 1 => match c.houses[k]?, gets[k]? with
    | some h, some g => ((handRow c h (-g).toNat ((handsTo c l gets k).1, List.replicate c.houses.length 0)).1, (handsTo c l gets k).2 ++ outRow c h (handRow c h (-g).toNat ((handsTo c l gets k).1, List.replicate c.houses.length 0)).2)
    | _, _ => handsTo c l gets k
def handsL (c : Chn) (l : List Int) : List Hnd := if checkP c then (handsTo c l (getsL c l) c.houses.length).2 else []
theorem handRow_ok {c : Chn} (hR : Right c) {h : Int} (hh : h ∈ c.houses) {m : List Int} (hm : Mvs c m) {B : Int} {row : List Int} (hrl : row.length = c.houses.length) (hb : ∀ y ∈ row, 0 ≤ y ∧ y ≤ B) :
    ∀ k, Mvs c (handRow c h k (m, row)).1 ∧ (handRow c h k (m, row)).2.length = c.houses.length ∧ ∀ y ∈ (handRow c h k (m, row)).2, 0 ≤ y ∧ y ≤ B + k
  | 0 => ⟨hm, hrl, fun y hy => by have := hb y hy; omega⟩
  | k + 1 => by
    obtain ⟨h1, h2, h3⟩ := handRow_ok hR hh hm hrl hb k
    refine ⟨(follow_ok hR h1 hh).1, by rw [handRow, bump_len]; exact h2, fun y hy => ?_⟩
    rw [handRow] at hy
    obtain ⟨i, hi⟩ := List.getElem?_of_mem hy
    rw [bump_get] at hi
    obtain ⟨z, hz, rfl⟩ := Option.map_eq_some_iff.1 hi
    have := h3 z (List.mem_of_getElem? hz)
    split <;> omega
end Go.Proofs.YtafdbgielmlihaaDoor
/- Memory of which two blocks may turn. -/
namespace Go.Proofs.YtafdbgielmlihaaDoor
open Go.RowKit Go.Shelf Go.Lib

structure TwoG (g1 g2 : Nat) (A B : World) : Prop where
  os : B.os = A.os
  tape : B.tape = A.tape
  output : B.output = A.output
  size : A.heap.size ≤ B.heap.size
  block : ∀ i, i < A.heap.size → i ≠ g1 → i ≠ g2 → B.heap[i]? = A.heap[i]?
theorem TwoG.refl (g1 g2 : Nat) (A : World) : TwoG g1 g2 A A := ⟨rfl, rfl, rfl, Nat.le_refl _, fun _ _ _ _ => rfl⟩
theorem TwoG.one {g1 g2 g : Nat} {A B C : World} (h : TwoG g1 g2 A B) (k : B.grownBy C (some g)) (hg : g = g1 ∨ g = g2) : TwoG g1 g2 A C :=
  ⟨k.os.trans h.os, k.tape.trans h.tape, k.output.trans h.output, Nat.le_trans h.size k.size, fun i hi h1 h2 => (k.block i (Nat.lt_of_lt_of_le hi h.size) (by
    intro e; injection e with e
    rcases hg with rfl | rfl
    · exact h1 e
    · exact h2 e)).trans (h.block i hi h1 h2)⟩
theorem Blk.two {g1 g2 g : Nat} {A B : World} {t : TypeId} {cs : Array Value} (h : Blk A g t cs) (k : TwoG g1 g2 A B) (h1 : g ≠ g1) (h2 : g ≠ g2) : Blk B g t cs := (k.block g h.lt h1 h2).trans h
theorem Sl.two {α : Type} {enc : α → List Value} {sz g1 g2 : Nat} {A B : World} {a : Option Addr} {n c : Nat} {l : List α} (h : Sl enc sz A (.slice a n c) l) (k : TwoG g1 g2 A B) (hx : 0 < l.length → ∀ b o, a = some ⟨b, o, none⟩ → b ≠ g1 ∧ b ≠ g2) : Sl enc sz B (.slice a n c) l := by
  obtain ⟨a', c', hv, hl, hc, hcell⟩ := h
  injection hv with e1 e2 e3
  subst e1 e2 e3
  refine ⟨_, _, rfl, hl, hc, fun h0 => ?_⟩
  obtain ⟨b, off, hA, hb, hcell⟩ := hcell h0
  refine ⟨b, off, hA, Nat.lt_of_lt_of_le hb k.size, fun i x hi j u hu => ?_⟩
  exact (World.cell?_of_block (a := ⟨b, _, none⟩) (k.block b hb (hx h0 b off hA).1 (hx h0 b off hA).2)).trans (hcell i x hi j u hu)
end Go.Proofs.YtafdbgielmlihaaDoor
/- The reference's Hands, part four: a house's row is put out. -/
namespace Go.Proofs.YtafdbgielmlihaaDoor
open Go.RowKit Go.Shelf Go.Lib
set_option maxRecDepth 100000
set_option linter.unusedSimpArgs false

def encHd (x : Hnd) : List Value := [.int .i64 x.a, .int .i64 x.b, .int .i64 x.n]
theorem encHd_1 : ∀ x, ∀ u ∈ encHd x, u.oneCell' = true := by
  intro x u hu
  simp only [encHd, List.mem_cons, List.not_mem_nil, or_false] at hu
  rcases hu with rfl | rfl | rfl <;> rfl
theorem info99x : (Tryd.prog.info? 99).map (fun i => (i.zero, i.size, i.bytes)) = some (some (.agg #[.int .i64 0, .int .i64 0, .int .i64 0]), 3, 24) := by kernel_rfl
theorem cells3h {w : World} {b : Nat} {x y z : Value} (h0 : w.cell? ⟨b, 0, none⟩ = some x) (h1 : w.cell? ⟨b, 1, none⟩ = some y) (h2 : w.cell? ⟨b, 2, none⟩ = some z) : ∀ (j : Nat) (u : Value), [x, y, z][j]? = some u → w.cell? ⟨b, j, none⟩ = some u := by
  intro j u hu
  match j, hu with
  | 0, hu => simp at hu; subst hu; exact h0
  | 1, hu => simp at hu; subst hu; exact h1
  | 2, hu => simp at hu; subst hu; exact h2
  | j + 3, hu => simp at hu
def outTo (c : Chn) (h : Int) (row : List Int) (k : Nat) : List Hnd := (((c.houses.zip row).take k).filter fun p => decide (0 < p.2)).map fun p => ⟨h, p.1, p.2⟩
theorem outTo_succ {c : Chn} {h : Int} {row : List Int} {k : Nat} {t y : Int} (ht : c.houses[k]? = some t) (hy : row[k]? = some y) : outTo c h row (k + 1) = outTo c h row k ++ (if 0 < y then [⟨h, t, y⟩] else []) := by
  unfold outTo
  rw [List.take_add_one, (List.getElem?_zip_eq_some (z := (t, y))).2 ⟨ht, hy⟩, Option.toList_some, List.filter_append, List.map_append]
  congr 1
  by_cases h0 : 0 < y <;> simp [h0]
theorem outTo_all {c : Chn} {h : Int} {row : List Int} {k : Nat} (hk : c.houses.length ≤ k) : outTo c h row k = outRow c h row := by
  unfold outTo outRow
  rw [List.take_of_length_le (by rw [List.length_zip]; omega)]
theorem outTo_len (c : Chn) (h : Int) (row : List Int) (k : Nat) : (outTo c h row k).length ≤ k := by
  unfold outTo
  rw [List.length_map]
  refine Nat.le_trans (List.length_filter_le _ _) ?_
  rw [List.length_take]
  omega
end Go.Proofs.YtafdbgielmlihaaDoor
/- The reference's Hands, part five: the walk of a house's row. -/
namespace Go.Proofs.YtafdbgielmlihaaDoor
open Go.RowKit Go.Shelf Go.Lib
set_option maxRecDepth 100000
set_option linter.unusedSimpArgs false

theorem Sl.below {α : Type} {enc : α → List Value} {sz B : Nat} {V W : World} {a : Option Addr} {n c : Nat} {l : List α} (h : Sl enc sz V (.slice a n c) l) (k : Below B V W) (hx : 0 < l.length → ∀ b o, a = some ⟨b, o, none⟩ → b < B) : Sl enc sz W (.slice a n c) l := by
  obtain ⟨a', c', hv, hl, hc, hcell⟩ := h
  injection hv with e1 e2 e3
  subst e1 e2 e3
  refine ⟨_, _, rfl, hl, hc, fun h0 => ?_⟩
  obtain ⟨b, off, hA, hb, hcell⟩ := hcell h0
  refine ⟨b, off, hA, Nat.lt_of_lt_of_le hb k.size, fun i x hi j u hu => ?_⟩
  exact (World.cell?_of_block (a := ⟨b, _, none⟩) (k.block b (hx h0 b off hA))).trans (hcell i x hi j u hu)
end Go.Proofs.YtafdbgielmlihaaDoor
/- The reference's Hands, part seven: what the loop over the houses keeps. -/
namespace Go.Proofs.YtafdbgielmlihaaDoor
open Go.RowKit Go.Shelf Go.Lib
set_option maxRecDepth 100000
set_option linter.unusedSimpArgs false

theorem own_same {α : Type} {enc : α → List Value} {e : TypeId} {sz base : Nat} {W W' : World} {v : Value} {l : List α} (h : Own enc e sz W base v l) (hs : ∀ g, v.ownBlock = some g → W'.heap[g]? = W.heap[g]?) : Own enc e sz W' base v l := by
  refine ⟨h.1, ?_⟩
  rcases h.2 with h2 | ⟨g, cap, cur, e1, hb, hg, h5⟩
  · exact .inl h2
  · exact .inr ⟨g, cap, cur, e1, hb, (hs g (by rw [e1]; rfl)).trans hg, h5⟩
theorem own_rng {α : Type} {enc : α → List Value} {e : TypeId} {sz base : Nat} {W : World} {v : Value} {l : List α} (h : Own enc e sz W base v l) {g : Nat} (hg : v.ownBlock = some g) : base ≤ g ∧ g < W.heap.size := World.ownsRow.lt h g hg
theorem TwoG.far {w A B : World} {g1 g2 : Nat} (h : w.grownBy A (some g1)) (k : TwoG g1 g2 A B) (hg : w.heap.size ≤ g2) : w.grownBy B (some g1) :=
  ⟨k.os.trans h.os, k.tape.trans h.tape, k.output.trans h.output, Nat.le_trans h.size k.size, fun i hi hne => (k.block i (Nat.lt_of_lt_of_le hi h.size) (fun e => hne (by rw [e])) (by omega)).trans (h.block i hi hne)⟩
theorem RowX.at_ {w w' : World} {g : Nat} {m : List Int} (h : RowX w g m) (e : w'.heap[g]? = w.heap[g]?) : RowX w' g m := by
  obtain ⟨cur, h, h1⟩ := h
  exact ⟨cur, e.trans h, h1⟩
theorem handsTo_succ {c : Chn} {l gets : List Int} {k : Nat} {h g : Int} (hh : c.houses[k]? = some h) (hg : gets[k]? = some g) :
    handsTo c l gets (k + 1) = ((handRow c h (-g).toNat ((handsTo c l gets k).1, List.replicate c.houses.length 0)).1, (handsTo c l gets k).2 ++ outRow c h (handRow c h (-g).toNat ((handsTo c l gets k).1, List.replicate c.houses.length 0)).2) := by
  rw [handsTo]
  simp only [hh, hg]
theorem outRow_len (c : Chn) (h : Int) (row : List Int) : (outRow c h row).length ≤ c.houses.length := by
  unfold outRow
  rw [List.length_map]
  refine Nat.le_trans (List.length_filter_le _ _) ?_
  rw [List.length_zip]
  omega
theorem rep_zero (n : Nat) : ∀ y ∈ List.replicate n (0 : Int), 0 ≤ y ∧ y ≤ 0 := fun y hy => by have := List.eq_of_mem_replicate hy; omega
theorem handsTo_ok {c : Chn} {l gets : List Int} (hR : Right c) (hm : Mvs c l) (hgl : gets.length = c.houses.length) : ∀ k, k ≤ c.houses.length → Mvs c (handsTo c l gets k).1 ∧ (handsTo c l gets k).2.length ≤ 6 * k
  | 0, _ => ⟨hm, Nat.le_refl _⟩
  | k + 1, hk => by
    obtain ⟨h1, h2⟩ := handsTo_ok hR hm hgl k (by omega)
    have hh := List.getElem?_eq_getElem (l := c.houses) (i := k) (by omega)
    rw [handsTo_succ hh (List.getElem?_eq_getElem (by omega))]
    refine ⟨(handRow_ok hR (List.mem_of_getElem? hh) h1 (B := 0) (row := List.replicate c.houses.length 0) (by simp) (rep_zero _) _).1, ?_⟩
    dsimp only
    rw [List.length_append]
    have := outRow_len c (c.houses[k]'(by omega)) (handRow c (c.houses[k]'(by omega)) (-gets[k]'(by omega)).toNat ((handsTo c l gets k).1, List.replicate c.houses.length 0)).2
    have := hR.h6
    omega
theorem gets_len (c : Chn) (l : List Int) : (getsL c l).length = c.houses.length := by simp [getsL]
theorem gets_bd {c : Chn} {l : List Int} (hm : Mvs c l) (h10 : c.sales.length ≤ 10) : ∀ g ∈ getsL c l, -100 ≤ g ∧ g ≤ 100 := by
  intro g hg
  unfold getsL at hg
  obtain ⟨v, -, rfl⟩ := List.mem_map.1 hg
  have h1 := net_bd (B := 9) v (by decide) (salsOf c) l (fun y hy => by have := hm.b y hy; omega)
  have h2 := hm.l
  omega
theorem Sl.blk {α : Type} {enc : α → List Value} {sz : Nat} {w : World} {a : Option Addr} {n c : Nat} {l : List α} (h : Sl enc sz w (.slice a n c) l) (h0 : 0 < l.length) : ∀ b o, a = some ⟨b, o, none⟩ → b < w.heap.size := by
  obtain ⟨a', c', hv, hl, hc, hcell⟩ := h
  injection hv with e1 e2 e3
  subst e1
  obtain ⟨b, off, hA, hb, -⟩ := hcell h0
  intro b' o' e
  rw [hA] at e
  injection e with e
  injection e with e
  omega
end Go.Proofs.YtafdbgielmlihaaDoor
/- Range: the reference's. -/
namespace Go.Proofs.YtafdbgielmlihaaDoor
open Go.RowKit Go.Shelf Go.Lib
set_option maxRecDepth 100000
set_option linter.unusedSimpArgs false

def rangeE (c : Chn) (x : Int) : Int := if checkP c then (if 0 ≤ saleI c x then 0 else 61) else 60
/-- How many bales move by a sale. -/
def RangeOf (c : Chn) (x lo hi : Int) : Prop := (rangeE c x = 0 → IsRange c 1 (saleI c x).toNat lo ∧ IsRange c (-1) (saleI c x).toNat hi) ∧ (rangeE c x ≠ 0 → lo = 0 ∧ hi = 0)
theorem rangeOf_exists (c : Chn) (x : Int) : ∃ lo hi, RangeOf c x lo hi := by
  by_cases h : rangeE c x = 0
  · have hc : checkP c = true := by
      cases hc : checkP c with
      | true => rfl
      | false => unfold rangeE at h; rw [hc] at h; simp at h
    obtain ⟨lo, h1⟩ := range_exists (check_right hc).1 1 (saleI c x).toNat
    obtain ⟨hi, h2⟩ := range_exists (check_right hc).1 (-1) (saleI c x).toNat
    exact ⟨lo, hi, fun _ => ⟨h1, h2⟩, fun h' => absurd h h'⟩
  · exact ⟨0, 0, fun h' => absurd h' h, fun _ => ⟨rfl, rfl⟩⟩
/-- A span, and an error. -/
def SpanE (lo hi E : Int) (w : World) (e : Ending) (w' : World) : Prop := e = .returned (.tuple #[.agg #[.int .i64 lo, .int .i64 hi], .int .i64 E]) ∧ Ext w w'
theorem ret_span {fn : Func} (hf : fn.results = #[.cell 4 48, .tmp 5]) {R : Ending → World → Prop} {a : Act} {V : World} {g : Nat} {x0 x1 y0 y1 : Value} {E : Int} (hB : Blk V g 48 #[x0, x1]) (h4 : a.tmps.getD 4 undef = .pointer (some ⟨g, 0, none⟩)) (h5 : a.tmps.getD 5 undef = .int .i64 E) (hd : a.defers = [])
    (hR : ∀ W, V.grownBy W (some g) → R (.returned (.tuple #[.agg #[y0, y1], .int .i64 E])) W) : bodyPost Tryd.prog fn R .ret a ((V.setCell ⟨g, 0, none⟩ y0).setCell ⟨g, 1, none⟩ y1) := by
  have H := (hB.set_ 0 y0).set_ 1 y1
  have H2 : Blk ((V.setCell ⟨g, 0, none⟩ y0).setCell ⟨g, 1, none⟩ y1) g 48 #[y0, y1] := by simpa using H
  have G : V.grownBy ((V.setCell ⟨g, 0, none⟩ y0).setCell ⟨g, 1, none⟩ y1) (some g) := grown_set (grown_set (World.grownBy.refl _ _) (p := ⟨g, 0, none⟩) (.inl rfl) y0) (p := ⟨g, 1, none⟩) (.inl rfl) y1
  generalize (V.setCell ⟨g, 0, none⟩ y0).setCell ⟨g, 1, none⟩ y1 = W at H2 G ⊢
  obtain ⟨e0, e1, -, -⟩ := H2.c2
  refine bodyPost_ret (v := .tuple #[.agg #[y0, y1], .int .i64 E]) ?_ hd (hR W G)
  rw [results_cell_tmp hf, h4, h5]
  go_simp
/-- A list in new memory whose a-th number is known. -/
def HasA (B a : Nat) (x : Int) (v : Value) (W : World) : Prop := ∃ gm n cm, v = .slice (some ⟨gm, 0, none⟩) n cm ∧ a < n ∧ B ≤ gm ∧ gm < W.heap.size ∧ W.cell? ⟨gm, a, none⟩ = some (.int .i64 x)
theorem HasA.grown {B a g : Nat} {x : Int} {v : Value} {W W' : World} (h : HasA B a x v W) (k : W.grownBy W' (some g)) (hg : g < B) : HasA B a x v W' := by
  obtain ⟨gm, n, cm, h1, h2, h3, h4, h5⟩ := h
  exact ⟨gm, n, cm, h1, h2, h3, Nat.lt_of_lt_of_le h4 k.size, (World.cell?_of_block (a := ⟨gm, a, none⟩) (k.block gm h4 (by intro e; injection e with e; omega))).trans h5⟩
def PtrA (B a : Nat) (x : Int) (v : Value) (W : World) : Prop := ∃ gm, v = .pointer (some ⟨gm, a, none⟩) ∧ B ≤ gm ∧ gm < W.heap.size ∧ W.cell? ⟨gm, a, none⟩ = some (.int .i64 x)
theorem PtrA.grown {B a g : Nat} {x : Int} {v : Value} {W W' : World} (h : PtrA B a x v W) (k : W.grownBy W' (some g)) (hg : g < B) : PtrA B a x v W' := by
  obtain ⟨gm, h1, h3, h4, h5⟩ := h
  exact ⟨gm, h1, h3, Nat.lt_of_lt_of_le h4 k.size, (World.cell?_of_block (a := ⟨gm, a, none⟩) (k.block gm h4 (by intro e; injection e with e; omega))).trans h5⟩
theorem HasA.of {B a : Nat} {x : Int} {v : Value} {m : List Int} {W : World} (h : OwnM B v m W) (ha : a < m.length) (hx : m[a]?.getD 0 = x) : HasA B a x v W := by
  obtain ⟨A, cm, gm, rfl, h1, h2, h3⟩ := h
  obtain ⟨rfl, h4, h5⟩ := h3 (by omega)
  refine ⟨gm, m.length, cm, rfl, ha, h4, h5.lt, ?_⟩
  rw [List.getElem?_eq_getElem ha] at hx
  exact h5.cell (by rw [List.getElem?_eq_getElem ha]; exact congrArg some hx)
theorem OwnM.mono {B B' : Nat} {v : Value} {l : List Int} {W : World} (h : OwnM B v l W) (hb : B' ≤ B) : OwnM B' v l W := by
  obtain ⟨A, cm, gm, h1, h2, h3, h4⟩ := h
  exact ⟨A, cm, gm, h1, h2, h3, fun h0 => ⟨(h4 h0).1, Nat.le_trans hb (h4 h0).2.1, (h4 h0).2.2⟩⟩
end Go.Proofs.YtafdbgielmlihaaDoor
/- ChainLeast, plain: how many bales move by a sale; rings are gone round. -/
namespace Go.Proofs.YtafdbgielmlihaaDoor
open Go.RowKit Go.Shelf
set_option linter.unusedSimpArgs false

theorem range_cost {c : Chn} {e : Int} {a : Nat} {m : List Int} (hm : m.length = c.sales.length) : cost (salsAt c (refR e a)) m = 1000 * sumI m + e * (m[a]?.getD 0) := by
  have := cost_at 1000 e a (salsOf c) 0 m (by rw [hm, sals_len])
  rw [if_pos (Nat.zero_le _), Nat.sub_zero] at this
  exact this
theorem closes_at {c : Chn} (hR : Right c) {m : List Int} (h : Closes c m) (a : Nat) : 0 ≤ m[a]?.getD 0 ∧ m[a]?.getD 0 ≤ 9 := by
  cases ha : m[a]? with
  | none => exact ⟨Int.le_refl _, by decide⟩
  | some y => exact closes_nine hR h y (List.mem_of_getElem? ha)
/-- By each closing with as few bales, a sale moves as many as are told. -/
theorem range_in {c : Chn} (hR : Right c) (hN : c.sales.length ≤ 11) {l : List Int} (hl : IsClose c l) {a : Nat} {lo hi : Int} (h1 : IsRange c 1 a lo) (h2 : IsRange c (-1) a hi) {m : List Int} (hm : Closes c m) (hs : sumI m = sumI l) : lo ≤ m[a]?.getD 0 ∧ m[a]?.getD 0 ≤ hi := by
  obtain ⟨p, hp, rfl⟩ := h1
  obtain ⟨q, hq, rfl⟩ := h2
  have cp := closes_opt hp
  have cq := closes_opt hq
  have e1 := opt_closes hR hp hm
  have e2 := opt_closes hR hq hm
  rw [range_cost cp.len, range_cost hm.len] at e1
  rw [range_cost cq.len, range_cost hm.len] at e2
  have s1 := (close_least hR hN hl cp).1
  have s2 := (close_least hR hN hl cq).1
  have b1 := closes_at hR cp a
  have b2 := closes_at hR cq a
  have b3 := closes_at hR hm a
  omega
theorem range_bd {c : Chn} {e : Int} {a : Nat} {v : Int} (h : IsRange c e a v) {x : Sale} (hx : c.sales[a]? = some x) : 0 ≤ v ∧ v ≤ x.bales := by
  obtain ⟨p, hp, rfl⟩ := h
  have cp := closes_opt hp
  have ha : a < p.length := by rw [cp.len]; exact (List.getElem?_eq_some_iff.1 hx).1
  rw [List.getElem?_eq_getElem ha]
  exact cp.bd a x _ hx (List.getElem?_eq_getElem ha)

/-! Going round. -/
/-- From house to house by these sales, of each of which bales move still. -/
def Rode (c : Chn) (m : List Int) (t : Int) : Int → List Nat → Prop
  | a, [] => a = t
  | a, j :: L => ∃ x y, c.sales[j]? = some x ∧ m[j]? = some y ∧ 0 < y ∧ x.seller = a ∧ Rode c m t x.buyer L
def decL (m : List Int) (L : List Nat) : List Int := L.foldl (fun m j => bump m j (-1)) m
theorem decL_len : ∀ (L : List Nat) (m : List Int), (decL m L).length = m.length
  | [], _ => rfl
  | j :: L, m => by
    show (decL (bump m j (-1)) L).length = _
    rw [decL_len, bump_len]
theorem decL_get : ∀ {L : List Nat} {m : List Int} {i : Nat} {y : Int}, L.Nodup → m[i]? = some y → (decL m L)[i]? = some (if i ∈ L then y - 1 else y)
  | [], m, i, y, _, h => by simpa [decL] using h
  | j :: L, m, i, y, hn, h => by
    rw [List.nodup_cons] at hn
    show (decL (bump m j (-1)) L)[i]? = _
    by_cases hj : j = i
    · subst hj
      rw [decL_get hn.2 (y := y - 1) (by rw [bump_get, h]; simp; omega), if_neg hn.1, if_pos (by simp)]
    · rw [decL_get hn.2 (y := y) (by rw [bump_get, h]; simp [hj])]
      by_cases h2 : i ∈ L
      · rw [if_pos h2, if_pos (List.mem_cons_of_mem _ h2)]
      · rw [if_neg h2, if_neg (by rw [List.mem_cons, not_or]; exact ⟨Ne.symm hj, h2⟩)]
theorem rode_net {c : Chn} (hR : Right c) {t : Int} {M : List Int} : ∀ {L : List Nat} {m : List Int} {a : Int}, m.length = c.sales.length → Rode c M t a L → a ∈ c.houses → t ∈ c.houses →
    ∀ v, net (salsOf c) (decL m L) v = net (salsOf c) m v - one ((houseI c t).toNat = v) + one ((houseI c a).toNat = v)
  | [], m, a, _, h, _, _, v => by
    rw [show a = t from h]
    simp only [decL, List.foldl_nil]
    omega
  | j :: L, m, a, hm, ⟨x, y, hx, hy, h0, hsa, hr⟩, ha, ht, v => by
    subst hsa
    show net (salsOf c) (decL (bump m j (-1)) L) v = _
    have hj : j < c.sales.length := (List.getElem?_eq_some_iff.1 hx).1
    rw [rode_net hR (by rw [bump_len, hm]) hr (hR.sale x (List.mem_of_getElem? hx)).2.2.1 ht v, net_bump v (salsOf c) m j (-1) (salOf c x) (sals_get hx) (by omega)]
    show _ + -1 * (one ((houseI c x.buyer).toNat = v) - one ((houseI c x.seller).toNat = v)) - _ + _ = _
    omega
theorem rode_pos {c : Chn} {m : List Int} {t : Int} : ∀ {L : List Nat} {a : Int}, Rode c m t a L → ∀ j ∈ L, ∃ x y, c.sales[j]? = some x ∧ m[j]? = some y ∧ 0 < y
  | [], _, _, j, hj => by cases hj
  | i :: L, a, ⟨x, y, hx, hy, h0, _, hr⟩, j, hj => by
    rcases List.mem_cons.1 hj with rfl | hj
    · exact ⟨x, y, hx, hy, h0⟩
    · exact rode_pos hr j hj
/-- A ring is gone round: what is left closes the chain, too. -/
theorem ring_left {c : Chn} (hR : Right c) {m : List Int} (h : Closes c m) {a : Int} {L : List Nat} (hr : Rode c m a a L) (hn : L.Nodup) (ha : a ∈ c.houses) : Closes c (decL m L) := by
  refine ⟨by rw [decL_len, h.len], fun i x y hx hy => ?_, fun v => ?_⟩
  · have hi : i < m.length := by rw [h.len]; exact (List.getElem?_eq_some_iff.1 hx).1
    have hm := List.getElem?_eq_getElem hi
    have hb := h.bd i x _ hx hm
    rw [decL_get hn hm] at hy
    injection hy with hy
    subst hy
    split
    · rename_i hmem
      obtain ⟨x', y', _, hy', h0⟩ := rode_pos hr i hmem
      rw [hm] at hy'
      injection hy' with hy'
      omega
    · exact hb
  · rw [rode_net hR h.len hr ha ha v, ← h.gets v]
    omega
end Go.Proofs.YtafdbgielmlihaaDoor
/- ChainLeast, plain: how the law goes from house to house until a ring is closed. -/
namespace Go.Proofs.YtafdbgielmlihaaDoor
open Go.RowKit Go.Shelf
set_option linter.unusedSimpArgs false

theorem nodup_le : ∀ (n : Nat) (L : List Nat), L.Nodup → (∀ x ∈ L, x < n) → L.length ≤ n
  | 0, L, _, h => by
    cases L with
    | nil => exact Nat.le_refl _
    | cons x L => exact absurd (h x (by simp)) (Nat.not_lt_zero _)
  | n + 1, L, hn, h => by
    by_cases hm : n ∈ L
    · have := nodup_le n (L.erase n) (hn.erase n) fun x hx => by
        have h1 := (hn.mem_erase_iff.1 hx)
        have h2 := h x h1.2
        have := h1.1
        omega
      rw [List.length_erase_of_mem hm] at this
      omega
    · have := nodup_le n L hn fun x hx => by
        have h2 := h x hx
        have : x ≠ n := fun e => hm (e ▸ hx)
        omega
      omega
/-- The sellers of these sales. -/
def sellersL (c : Chn) (L : List Nat) : List Int := L.map fun j => ((c.sales[j]?).map (·.seller)).getD 0
/-- The way up to here: no house twice. -/
structure PathI (c : Chn) (m : List Int) (at_ : Int) (L : List Nat) : Prop where
  at0 : L ≠ [] → at_ ∈ c.houses
  rode : L ≠ [] → ∃ a, a ∈ c.houses ∧ Rode c m at_ a L
  nd : (sellersL c L).Nodup
  far : at_ ∉ sellersL c L
theorem PathI.nil (c : Chn) (m : List Int) (a : Int) : PathI c m a [] := ⟨fun h => absurd rfl h, fun h => absurd rfl h, List.nodup_nil, by simp [sellersL]⟩
theorem rode_snoc {c : Chn} {m : List Int} {x : Sale} {y : Int} {j : Nat} (hx : c.sales[j]? = some x) (hy : m[j]? = some y) (h0 : 0 < y) : ∀ {L : List Nat} {a : Int}, Rode c m x.seller a L → Rode c m x.buyer a (L ++ [j])
  | [], _, h => ⟨x, y, hx, hy, h0, Eq.symm h, rfl⟩
  | _ :: _, _, ⟨x', y', h1, h2, h3, h4, h5⟩ => ⟨x', y', h1, h2, h3, h4, rode_snoc hx hy h0 h5⟩
theorem rode_drop {c : Chn} {m : List Int} {t : Int} : ∀ {L : List Nat} {a : Int} {i j : Nat} {x : Sale}, Rode c m t a L → L[i]? = some j → c.sales[j]? = some x → Rode c m t x.seller (L.drop i)
  | [], _, _, _, _, _, h, _ => by simp at h
  | k :: L, a, 0, j, x, h, hj, hx => by
    simp at hj
    subst hj
    obtain ⟨x', y', h1, h2, h3, h4, h5⟩ := h
    rw [hx] at h1
    injection h1 with h1
    subst h1
    exact ⟨x, y', hx, h2, h3, rfl, h5⟩
  | k :: L, a, i + 1, j, x, ⟨x', y', _, _, _, _, h5⟩, hj, hx => rode_drop (L := L) h5 (by simpa using hj) hx
theorem PathI.idx {c : Chn} {m : List Int} {a : Int} {L : List Nat} (h : PathI c m a L) : L.Nodup := List.Pairwise.of_map _ (fun a b h e => h (by rw [e])) h.nd
theorem PathI.mem {c : Chn} {m : List Int} {a : Int} {L : List Nat} (h : PathI c m a L) : ∀ j ∈ L, j < c.sales.length := fun j hj => by
  have hne : L ≠ [] := fun e => by rw [e] at hj; cases hj
  obtain ⟨b, _, hr⟩ := h.rode hne
  obtain ⟨x, y, hx, _⟩ := rode_pos hr j hj
  exact (List.getElem?_eq_some_iff.1 hx).1
theorem PathI.len {c : Chn} {m : List Int} {a : Int} {L : List Nat} (h : PathI c m a L) : L.length ≤ c.sales.length := nodup_le _ _ h.idx h.mem
/-- One sale more. -/
theorem path_snoc {c : Chn} (hR : Right c) {m : List Int} {a : Int} {L : List Nat} (h : PathI c m a L) (ha : a ∈ c.houses) {x : Sale} {y : Int} {j : Nat} (hx : c.sales[j]? = some x) (hy : m[j]? = some y) (h0 : 0 < y) (hs : x.seller = a) :
    (∃ b, b ∈ c.houses ∧ Rode c m x.buyer b (L ++ [j])) ∧ (sellersL c (L ++ [j])).Nodup ∧ x.buyer ∈ c.houses := by
  subst hs
  refine ⟨?_, ?_, (hR.sale x (List.mem_of_getElem? hx)).2.2.1⟩
  · by_cases hL : L = []
    · subst hL
      exact ⟨x.seller, ha, x, y, hx, hy, h0, rfl, rfl⟩
    · obtain ⟨b, hb, hr⟩ := h.rode hL
      exact ⟨b, hb, rode_snoc hx hy h0 hr⟩
  · unfold sellersL
    rw [List.map_append, List.nodup_append]
    refine ⟨h.nd, by simp, fun z hz w hw e => ?_⟩
    simp [hx] at hw
    subst hw
    exact h.far (e ▸ hz)
/-- It is in no ring yet. -/
theorem path_on {c : Chn} (hR : Right c) {m : List Int} {a : Int} {L : List Nat} (h : PathI c m a L) (ha : a ∈ c.houses) {x : Sale} {y : Int} {j : Nat} (hx : c.sales[j]? = some x) (hy : m[j]? = some y) (h0 : 0 < y) (hs : x.seller = a)
    (hf : ∀ (i k : Nat) (z : Sale), (L ++ [j])[i]? = some k → c.sales[k]? = some z → z.seller ≠ x.buyer) : PathI c m x.buyer (L ++ [j]) := by
  obtain ⟨h1, h2, h3⟩ := path_snoc hR h ha hx hy h0 hs
  refine ⟨fun _ => h3, fun _ => h1, h2, fun hm => ?_⟩
  unfold sellersL at hm
  rw [List.mem_map] at hm
  obtain ⟨k, hk, e⟩ := hm
  obtain ⟨b, _, hr⟩ := h1
  obtain ⟨z, _, hz, _⟩ := rode_pos hr k hk
  obtain ⟨i, hi⟩ := List.mem_iff_getElem?.1 hk
  rw [hz] at e
  exact hf i k z hi hz (by simpa using e)
/-- A ring is closed: what is left of it closes the chain, too. -/
theorem path_ring {c : Chn} (hR : Right c) {m : List Int} (hC : Closes c m) {a : Int} {L : List Nat} (h : PathI c m a L) (ha : a ∈ c.houses) {x : Sale} {y : Int} {j : Nat} (hx : c.sales[j]? = some x) (hy : m[j]? = some y) (h0 : 0 < y) (hs : x.seller = a)
    {i k : Nat} {z : Sale} (hi : (L ++ [j])[i]? = some k) (hz : c.sales[k]? = some z) (he : z.seller = x.buyer) : Closes c (decL m ((L ++ [j]).drop i)) ∧ ((L ++ [j]).drop i).Nodup ∧ ∀ q ∈ (L ++ [j]).drop i, q < c.sales.length := by
  obtain ⟨⟨b, hb, hr⟩, h2, h3⟩ := path_snoc hR h ha hx hy h0 hs
  have hd := rode_drop hr hi hz
  rw [he] at hd
  have hn : (L ++ [j]).Nodup := List.Pairwise.of_map _ (fun a b h e => h (by rw [e])) h2
  have hn2 := hn.sublist (List.drop_sublist i _)
  refine ⟨ring_left hR hC hd hn2 h3, hn2, fun q hq => ?_⟩
  obtain ⟨w, _, hw, _⟩ := rode_pos hr q (List.mem_of_mem_drop hq)
  exact (List.getElem?_eq_some_iff.1 hw).1
theorem decL_snoc {m : List Int} {R : List Nat} {k q : Nat} (h : R[k]? = some q) : decL m (R.take (k + 1)) = bump (decL m (R.take k)) q (-1) := by
  unfold decL
  rw [List.take_add_one, h, List.foldl_append]
  rfl
theorem closes_all {c : Chn} (hR : Right c) : Closes c (balesOf c) := ⟨by simp [balesOf], fun i x y hx hy => by
  unfold balesOf at hy
  rw [List.getElem?_map, hx] at hy
  injection hy with hy
  subst hy
  have := (hR.sale x (List.mem_of_getElem? hx)).2.2.2.1
  dsimp only
  omega, fun _ => rfl⟩
end Go.Proofs.YtafdbgielmlihaaDoor
/- ChainLeast: the law goes from house to house (the walk of other's inner loops). -/
namespace Go.Proofs.YtafdbgielmlihaaDoor
open Go.RowKit Go.Shelf Go.Lib
set_option maxRecDepth 100000
set_option linter.unusedSimpArgs false

abbrev encN (j : Nat) : List Value := [.int .i64 (j : Int)]
set_option maxHeartbeats 4000000 in
theorem scan_wp {c : Chn} {m : List Int} {b gm N n cp cp2 cm nb : Nat} {A A2 Am : Option Addr} {at_ k : Int} {pv v19 v21 : Value} {w : World} {a0 : Act} {Q : Exit → Act → World → Prop}
    (hN : N = c.sales.length) (hN9 : N ≤ 1000) (hm : m.length = N) (hk : 0 ≤ k ∧ k ≤ 255)
    (hF : Fr 118 [(2, .pointer (some ⟨b, 0, none⟩)), (5, .slice Am N cm), (6, .int .i64 at_), (7, pv), (9, .int .u8 k), (10, .int .i64 (-1)), (19, v19), (20, .int .i64 (nb : Int)), (21, v21), (43, .slice A2 N cp2), (44, .int .i64 (N : Int)), (45, .int .i64 0)] [] a0)
    (hB : Blk w b 25 #[.slice A n cp, .slice A2 N cp2]) (hs : SlL w (.slice A2 N cp2) c.sales) (hX : 0 < N → Am = some ⟨gm, 0, none⟩ ∧ RowX w gm m)
    (hQ : ∀ A' nx, Fr 118 [(2, .pointer (some ⟨b, 0, none⟩)), (5, .slice Am N cm), (6, .int .i64 at_), (7, pv), (9, .int .u8 k), (10, .int .i64 nx), (19, v19), (20, .int .i64 (nb : Int)), (21, v21)] [] A' → (nx = -1 ∨ ∃ (j : Nat) (x : Sale) (y : Int), nx = (j : Int) ∧ c.sales[j]? = some x ∧ m[j]? = some y ∧ 0 < y ∧ x.seller = at_) → Q .normal A' w) :
    (subC [1, 1, 1, 1, 0, 1, 2, 3, 1, 1, 0, 2, 1, 1, 1, 1, 0, 1] (Tryd.f65.body.getD .skip)).wp Tryd.prog Q a0 w := by
  have HB := Lib.hid hB; have HS := Lib.hid hs; have HX := Lib.hid hX; have HQ := Lib.hid hQ; have HN := Lib.hid hN; have HM := Lib.hid hm
  clear hB hs hX hQ hN hm
  delta Tryd.f65
  simp only [subC, Option.getD_some]
  obtain ⟨ρ, rfl, hρ⟩ := hF.open_
  simp only [List.forall_mem_cons] at hρ
  obtain ⟨r2, r5, r6, r7, r9, r10, r19, r20, r21, r43, r44, r45, -⟩ := hρ
  simp only [lst, Nat.reduceAdd, r2, r5, r6, r7, r9, r10, r19, r20, r21, r43, r44, r45]
  clear r2 r5 r6 r7 r9 r10 r19 r20 r21 r43 r44 r45 hF
  go_wp2
  refine wp_loop_ghost_k (fun g A' W => ∃ i : Nat, i ≤ N ∧ N - i ≤ g ∧ W = w ∧ Fr 118 [(2, .pointer (some ⟨b, 0, none⟩)), (5, .slice Am N cm), (6, .int .i64 at_), (7, pv), (9, .int .u8 k), (10, .int .i64 (-1)), (19, v19), (20, .int .i64 (nb : Int)), (21, v21), (43, .slice A2 N cp2), (44, .int .i64 (N : Int)), (45, .int .i64 (i : Int))] [] A') N ?_ ?_
  · exact ⟨0, Nat.zero_le _, by omega, rfl, ⟨rfl, rfl, by simp [Act.eval]⟩⟩
  · rintro g A' W ⟨i, hi, hg, rfl, hF⟩ J K' hJ hK
    have HJ := Lib.hid hJ
    obtain ⟨ρ, rfl, hρ⟩ := hF.open_
    simp only [List.forall_mem_cons] at hρ
    obtain ⟨r2, r5, r6, r7, r9, r10, r19, r20, r21, r43, r44, r45, -⟩ := hρ
    simp only [lst, Nat.reduceAdd, r2, r5, r6, r7, r9, r10, r19, r20, r21, r43, r44, r45]
    clear r2 r5 r6 r7 r9 r10 r19 r20 r21 r43 r44 r45 hF hJ
    by_cases hlt : i < N
    · have hltz : (i : Int) < (N : Int) := by omega
      have hkw : IntKind.i64.wrap k = k := by rw [IntKind.wrap_i64]; omega
      have hiw : IntKind.i64.wrap ((i : Int) + k) = (i : Int) + k := by rw [IntKind.wrap_i64]; omega
      have hNz : ¬ (N : Int) = 0 := by omega
      have hNq : ¬ N = 0 := by omega
      obtain ⟨j, hj, hjn⟩ := remz_nat (a := (i : Int) + k) (by omega) (show 0 < N by omega)
      have hjz : (j : Int) < (N : Int) := by omega
      obtain ⟨rfl, hx⟩ := HX.out (by omega)
      obtain ⟨bs, os, x, rfl, hxs, -, hcell⟩ := HS.out.at_ hjn
      obtain ⟨y, hy⟩ : ∃ y, m[j]? = some y := ⟨_, List.getElem?_eq_getElem (by have := HM.out; omega)⟩
      have c1 := (SlL.cells hcell (Ext.refl _)).2.1
      have d1 := hx.cell hy
      have t0 := HB.out.c2
      have HXS := Lib.hid hxs; have HY := Lib.hid hy
      clear hxs hcell hy hx
      by_cases h1 : x.seller = at_
      · have h1' : (x.seller == at_) = true := by rw [beq_iff_eq]; exact h1
        have HE := Lib.hid h1
        clear h1
        by_cases h2 : 0 < y
        · go_wp2
          exact HQ.out _ _ ⟨rfl, rfl, by simp [Act.eval]⟩ (.inr ⟨j, x, y, rfl, HXS.out, HY.out, h2, HE.out⟩)
        · go_wp2
          exact Handed.intro (N - (i + 1)) (by omega) (HJ.out _ _ _ ⟨i + 1, by omega, Nat.le_refl _, rfl, ⟨rfl, rfl, by simp [Act.eval]⟩⟩)
      · have h1' : (x.seller == at_) = false := by rw [beq_eq_false_iff_ne]; exact h1
        clear h1
        go_wp2
        exact Handed.intro (N - (i + 1)) (by omega) (HJ.out _ _ _ ⟨i + 1, by omega, Nat.le_refl _, rfl, ⟨rfl, rfl, by simp [Act.eval]⟩⟩)
    · go_wp2
      exact HQ.out _ _ ⟨rfl, rfl, by simp [Act.eval]⟩ (.inl rfl)

set_option maxHeartbeats 8000000 in
theorem ring_wp {c : Chn} {m : List Int} {P : List Nat} {b gm N n cp cp2 cm np cpp nb : Nat} {A A2 Ap : Option Addr} {at_ : Int} {v9 v10 v19 v21 : Value} {w : World} {a0 : Act} {Q : Exit → Act → World → Prop}
    (hN : N = c.sales.length) (hm : m.length = N) (hm9 : ∀ y ∈ m, -1000 ≤ y ∧ y ≤ 1000) (hP : np = P.length) (hP9 : np ≤ 1000) (hPn : P.Nodup) (hPm : ∀ j ∈ P, j < N)
    (hF : Fr 118 [(2, .pointer (some ⟨b, 0, none⟩)), (5, .slice (some ⟨gm, 0, none⟩) N cm), (6, .int .i64 at_), (7, .slice Ap np cpp), (9, v9), (10, v10), (19, v19), (20, .int .i64 (nb : Int)), (21, v21), (85, .slice Ap np cpp), (86, .int .i64 (np : Int)), (87, .int .i64 0)] [] a0)
    (hB : Blk w b 25 #[.slice A n cp, .slice A2 N cp2]) (hs : SlL w (.slice A2 N cp2) c.sales) (hX : RowX w gm m) (hp : Sl encN 1 w (.slice Ap np cpp) P) (hpg : ∀ b o, Ap = some ⟨b, o, none⟩ → b ≠ gm)
    (hQ1 : ∀ A', Fr 118 [(2, .pointer (some ⟨b, 0, none⟩)), (5, .slice (some ⟨gm, 0, none⟩) N cm), (6, .int .i64 at_), (7, .slice Ap np cpp), (19, v19), (20, .int .i64 (nb : Int)), (21, v21)] [] A' → (∀ (i k : Nat) (z : Sale), P[i]? = some k → c.sales[k]? = some z → z.seller ≠ at_) → Q .normal A' w)
    (hQ2 : ∀ A' W' (i k : Nat) (z : Sale), Fr 118 [(2, .pointer (some ⟨b, 0, none⟩)), (5, .slice (some ⟨gm, 0, none⟩) N cm), (6, .int .i64 at_), (7, .slice none 0 0), (19, v19), (20, .int .i64 (nb : Int)), (21, v21)] [] A' → P[i]? = some k → c.sales[k]? = some z → z.seller = at_ → w.grownBy W' (some gm) → RowX W' gm (decL m (P.drop i)) → Q .normal A' W') :
    (subC [1, 1, 1, 1, 0, 1, 2, 3, 1, 1, 0, 2, 1, 1, 1, 1, 1, 1, 1, 1, 1] (Tryd.f65.body.getD .skip)).wp Tryd.prog Q a0 w := by
  have HB := Lib.hid hB; have HS := Lib.hid hs; have HX := Lib.hid hX; have HQ1 := Lib.hid hQ1; have HQ2 := Lib.hid hQ2; have HN := Lib.hid hN; have HM := Lib.hid hm; have HM9 := Lib.hid hm9; have HP := Lib.hid hP; have HPN := Lib.hid hPn; have HPM := Lib.hid hPm; have HPS := Lib.hid hp; have HPG := Lib.hid hpg
  obtain ⟨Ap', cpp', eP, hlp, hcpp, -⟩ := id hp
  injection eP with eP1 eP2 eP3
  subst eP3
  have hcp : np ≤ cpp := by omega
  clear hB hs hX hQ1 hQ2 hN hm hm9 hP hPn hPm hp hpg eP1 eP2 hlp
  delta Tryd.f65
  simp only [subC, Option.getD_some]
  obtain ⟨ρ, rfl, hρ⟩ := hF.open_
  simp only [List.forall_mem_cons] at hρ
  obtain ⟨r2, r5, r6, r7, r9, r10, r19, r20, r21, r85, r86, r87, -⟩ := hρ
  simp only [lst, Nat.reduceAdd, r2, r5, r6, r7, r9, r10, r19, r20, r21, r85, r86, r87]
  clear r2 r5 r6 r7 r9 r10 r19 r20 r21 r85 r86 r87 hF
  go_wp2
  refine wp_loop_ghost_k (fun g A' W => ∃ i : Nat, i ≤ np ∧ np - i ≤ g ∧ W = w ∧ (∀ (i' k : Nat) (z : Sale), i' < i → P[i']? = some k → c.sales[k]? = some z → z.seller ≠ at_) ∧ Fr 118 [(2, .pointer (some ⟨b, 0, none⟩)), (5, .slice (some ⟨gm, 0, none⟩) N cm), (6, .int .i64 at_), (7, .slice Ap np cpp), (19, v19), (20, .int .i64 (nb : Int)), (21, v21), (85, .slice Ap np cpp), (86, .int .i64 (np : Int)), (87, .int .i64 (i : Int))] [] A') np ?_ ?_
  · exact ⟨0, Nat.zero_le _, by omega, rfl, fun i' k z h => absurd h (Nat.not_lt_zero _), ⟨rfl, rfl, by simp [Act.eval]⟩⟩
  · rintro g A' W ⟨i, hi, hg, rfl, hno, hF⟩ J K' hJ hK
    have HJ := Lib.hid hJ; have HNO := Lib.hid hno
    obtain ⟨ρ, rfl, hρ⟩ := hF.open_
    simp only [List.forall_mem_cons] at hρ
    obtain ⟨r2, r5, r6, r7, r19, r20, r21, r85, r86, r87, -⟩ := hρ
    simp only [lst, Nat.reduceAdd, r2, r5, r6, r7, r19, r20, r21, r85, r86, r87]
    clear r2 r5 r6 r7 r19 r20 r21 r85 r86 r87 hF hJ hno
    by_cases hlt : i < np
    · have hltz : (i : Int) < (np : Int) := by omega
      obtain ⟨bp, op, k, rfl, hk, hbp, hck⟩ := HPS.out.at_ hlt
      have hkN : k < N := HPM.out k (List.mem_of_getElem? hk)
      have hkz : (k : Int) < (N : Int) := by omega
      obtain ⟨bs, os, z, rfl, hz, -, hcell⟩ := HS.out.at_ hkN
      have c1 := (SlL.cells hcell (Ext.refl _)).2.1
      have d1 : W.cell? ⟨bp, op + i, none⟩ = some (.int .i64 (k : Int)) := by simpa using hck W (Ext.refl _) 0 _ rfl
      have t0 := HB.out.c2
      have HK := Lib.hid hk; have HZ := Lib.hid hz
      have hpg := HPG.out bp op rfl
      clear hk hck hz hcell
      by_cases h1 : z.seller = at_
      · have h1' : (z.seller == at_) = true := by rw [beq_iff_eq]; exact h1
        have HE := Lib.hid h1
        clear h1
        have hiz : (i : Int) ≤ (np : Int) := by omega
        go_wp2
        clear t0 c1 d1
        refine wp_loop_ghost_k (fun g A' W' => ∃ q : Nat, q ≤ np - i ∧ np - i - q ≤ g ∧ W.grownBy W' (some gm) ∧ RowX W' gm (decL m ((P.drop i).take q)) ∧ Fr 118 [(2, .pointer (some ⟨b, 0, none⟩)), (5, .slice (some ⟨gm, 0, none⟩) N cm), (6, .int .i64 at_), (19, v19), (20, .int .i64 (nb : Int)), (21, v21), (102, .slice (some ⟨bp, op + i, none⟩) (np - i) (cpp - i)), (103, .int .i64 ((np - i : Nat) : Int)), (104, .int .i64 (q : Int))] [] A') (np - i) ?_ ?_
        · exact ⟨0, Nat.zero_le _, by omega, World.grownBy.refl _ _, HX.out, ⟨rfl, rfl, by simp [Act.eval]⟩⟩
        · rintro g2 A'2 W2 ⟨q, hq, hg2, hG, hR2, hF⟩ J2 K2 hJ2 hK2
          have HJ2 := Lib.hid hJ2; have HG := Lib.hid hG; have HR2 := Lib.hid hR2
          obtain ⟨ρ, rfl, hρ⟩ := hF.open_
          simp only [List.forall_mem_cons] at hρ
          obtain ⟨r2, r5, r6, r19, r20, r21, r102, r103, r104, -⟩ := hρ
          simp only [lst, Nat.reduceAdd, r2, r5, r6, r19, r20, r21, r102, r103, r104]
          clear r2 r5 r6 r19 r20 r21 r102 r103 r104 hF hJ2 hG hR2
          by_cases hq2 : q < np - i
          · have hqz : (q : Int) < ((np - i : Nat) : Int) := by omega
            obtain ⟨bp', op', j, e1, hj, -, hcj⟩ := (HPS.out.grown HG.out (fun _ b o e => HPG.out b o e)).at_ (show i + q < np by omega)
            cases e1
            have hjN : j < N := HPM.out j (List.mem_of_getElem? hj)
            have hjz : (j : Int) < (N : Int) := by omega
            have d1 : W2.cell? ⟨bp, op + i + q, none⟩ = some (.int .i64 (j : Int)) := by
              have := hcj W2 (Ext.refl _) 0 _ rfl
              rw [show op + i + q = op + (i + q) * 1 + 0 by omega]
              exact this
            have hjR : (P.drop i)[q]? = some j := by rw [List.getElem?_drop]; exact hj
            have hnd : ((P.drop i).take q).Nodup := (HPN.out.sublist (List.drop_sublist i _)).sublist (List.take_sublist q _)
            obtain ⟨y, hy⟩ : ∃ y, m[j]? = some y := ⟨_, List.getElem?_eq_getElem (by have := HM.out; omega)⟩
            have hyb := HM9.out y (List.mem_of_getElem? hy)
            obtain ⟨u, hu, hub⟩ : ∃ u, (decL m ((P.drop i).take q))[j]? = some u ∧ (-1001 ≤ u ∧ u ≤ 1000) := by
              refine ⟨_, decL_get hnd hy, ?_⟩
              split <;> omega
            have HU := Lib.hid hu
            have HDS := Lib.hid (show decL m ((P.drop i).take (q + 1)) = (decL m ((P.drop i).take q)).set j (u - 1) by rw [decL_snoc hjR, bump_set hu, Int.sub_eq_add_neg])
            have huw : IntKind.i64.wrap (u - 1) = u - 1 := by rw [IntKind.wrap_i64]; omega
            have k0 := HR2.out.cell hu
            have kf := HR2.out.frozen
            have kl := HR2.out.lt
            clear hj hcj hjR hnd hy hyb hu hub
            go_wp2
            exact Handed.intro (np - i - (q + 1)) (by omega) (HJ2.out _ _ _ ⟨q + 1, by omega, by omega, grown_set HG.out (p := ⟨gm, j, none⟩) (.inl rfl) _, by rw [HDS.out]; exact HR2.out.set _ _, ⟨rfl, rfl, by simp [Act.eval]⟩⟩)
          · have HTK := Lib.hid (show (P.drop i).take q = P.drop i from List.take_of_length_le (by rw [List.length_drop]; have := HP.out; omega))
            have hR3 := HR2.out
            rw [HTK.out] at hR3
            have HR3 := Lib.hid hR3
            clear hR3
            go_wp2
            exact HQ2.out _ _ i k z ⟨rfl, rfl, by simp [Act.eval]⟩ HK.out HZ.out HE.out HG.out HR3.out
      · have h1' : (z.seller == at_) = false := by rw [beq_eq_false_iff_ne]; exact h1
        have HE := Lib.hid h1
        clear h1
        go_wp2
        exact Handed.intro (np - (i + 1)) (by omega) (HJ.out _ _ _ ⟨i + 1, by omega, by omega, rfl, fun i' k' z' h h1 h2 => by
          rcases Nat.lt_succ_iff_lt_or_eq.1 h with h | rfl
          · exact HNO.out i' k' z' h h1 h2
          · rw [HK.out] at h1; injection h1 with h1; subst h1
            rw [HZ.out] at h2; injection h2 with h2; subst h2
            exact HE.out, ⟨rfl, rfl, by simp [Act.eval]⟩⟩)
    · go_wp2
      exact HQ1.out _ ⟨rfl, rfl, by simp [Act.eval]⟩ fun i' k' z' h1 h2 => HNO.out i' k' z' (by have := (List.getElem?_eq_some_iff.1 h1).1; have := HP.out; omega) h1 h2
end Go.Proofs.YtafdbgielmlihaaDoor
/- ChainLeast: the closing that the law makes by numbers. -/
namespace Go.Proofs.YtafdbgielmlihaaDoor
open Go.RowKit Go.Shelf Go.Lib
set_option maxRecDepth 100000
set_option linter.unusedSimpArgs false

abbrev encU (n : Int) : List Value := [.int .u8 n]
/-- What the outer loop keeps. -/
structure OthW (c : Chn) (b gm B : Nat) (A A2 : Option Addr) (n cp N cp2 : Nat) (w : World) (m : List Int) (at_ : Int) (L : List Nat) (pv : Value) (W : World) : Prop where
  e : Ext w W
  b : Blk W b 25 #[.slice A n cp, .slice A2 N cp2]
  cl : Closes c m
  x : 0 < N → RowX W gm m
  pi : PathI c m at_ L
  p : Own encN 3 1 W B pv L
  z : B ≤ W.heap.size
theorem OthW.ext {c : Chn} {b gm B : Nat} {A A2 : Option Addr} {n cp N cp2 : Nat} {w : World} {m : List Int} {at_ : Int} {L : List Nat} {pv : Value} {W W' : World} (h : OthW c b gm B A A2 n cp N cp2 w m at_ L pv W) (k : Ext W W') : OthW c b gm B A A2 n cp N cp2 w m at_ L pv W' :=
  ⟨h.e.trans k, h.b.ext k, h.cl, fun h0 => (h.x h0).ext k, h.pi, h.p.ext k, Nat.le_trans h.z k.size⟩
theorem ext_grownL {w A B : World} {g : Nat} (h : Ext w A) (k : A.grownBy B (some g)) (hg : w.heap.size ≤ g) : Ext w B :=
  ⟨k.os.trans h.os, k.tape.trans h.tape, k.output.trans h.output, Nat.le_trans h.size k.size, fun i hi => (k.block i (Nat.lt_of_lt_of_le hi h.size) (by intro e; injection e with e; omega)).trans (h.block i hi)⟩
theorem encN_one : ∀ x, ∀ u ∈ encN x, u.oneCell' = true := by intro x u hu; simp at hu; subst hu; rfl
set_option maxHeartbeats 8000000 in
theorem other_any (c : Chn) (by_ : List Int) (hv sv bv : Value) (w : World) (hR : Right c) (hN10 : c.sales.length ≤ 10) (hb : ∀ k ∈ by_, 0 ≤ k ∧ k ≤ 255) (hh : SlI w hv c.houses) (hs : SlL w sv c.sales) (hbs : Sl encU 1 w bv by_) :
    Calls Tryd.prog 65 #[valC hv sv, bv] w fun e w' => (∃ v m, e = .returned v ∧ SlI w' v m ∧ Closes c m) ∧ Ext w w' := by
  have HR := Lib.hid hR; have HH := Lib.hid hh; have HS := Lib.hid hs; have HBS := Lib.hid hbs; have HB := Lib.hid hb
  obtain ⟨N, hN⟩ : ∃ N, N = c.sales.length := ⟨_, rfl⟩
  have HN := Lib.hid hN
  have hN9 : N ≤ 1000 := by omega
  obtain ⟨A, n, cp, rfl, hn, hlc, hcm⟩ := hh.form
  obtain ⟨A2, n2, cp2, rfl, hn2, hlc2, hcm2⟩ := hs.form
  obtain ⟨Ab, nb, cb, rfl, hnb, hlb, hcb⟩ := hbs.form
  have en : n2 = N := by have := hn2.out; omega
  subst en
  have hn6 : n ≤ 6 := by have := HR.out.h6; have := hn.out; omega
  clear hR hh hs hbs hb hN hn2
  obtain ⟨w0, hw0⟩ : ∃ w0, w0 = w.alloc (.cells #[.slice A n cp, .slice A2 n2 cp2] 25) := ⟨_, rfl⟩
  have E0 := Lib.hid (show Ext w w0 from hw0 ▸ Ext.al _ _)
  have B0 := Lib.hid (show Blk w0 w.heap.size 25 #[.slice A n cp, .slice A2 n2 cp2] from hw0 ▸ Blk.new _ _ _)
  go_enter Tryd.func65, Tryd.ntmps65
  go_wp2_with fail
  simp only [← hw0]
  clear hw0
  refine (f66_any c _ _ w0 (HH.out.ext E0.out) (HS.out.ext E0.out) (by omega)).mono ?_
  rintro e w1 ⟨⟨v, rfl, hO⟩, hE⟩
  have E1 := Lib.hid (E0.out.trans hE); have B1 := Lib.hid (B0.out.ext hE)
  obtain ⟨Am, cm, gm, rfl, hcm9, HAM, HX1, HGM⟩ : ∃ Am cm gm, v = .slice Am n2 cm ∧ n2 ≤ cm ∧ Hid (0 < n2 → Am = some ⟨gm, 0, none⟩) ∧ Hid (0 < n2 → RowX w1 gm (balesOf c)) ∧ Hid (0 < n2 → w.heap.size < gm ∧ gm < w1.heap.size) := by
    have hl : (balesOf c).length = n2 := by rw [HN.out]; simp [balesOf]
    rcases rowX_own hO with ⟨h1, h2⟩ | ⟨g, cc, h1, h2, h3, h4, h5⟩
    · have h0 : n2 = 0 := by rw [← hl, h2]; rfl
      subst h0
      exact ⟨none, 0, 0, h1, Nat.le_refl _, fun h => absurd h (by omega), fun h => absurd h (by omega), fun h => absurd h (by omega)⟩
    · rw [hl] at h1 h3
      have hz : w0.heap.size ≤ g := h2
      have hz0 := B0.out.lt
      exact ⟨_, cc, g, h1, h3, fun _ => rfl, fun _ => h5, fun _ => ⟨by omega, h5.lt⟩⟩
  have HS0 := Lib.hid (show SlI w1 (.slice Am n2 cm) (balesOf c) from hO.sl (fun _ => rfl))
  clear hO hE
  have HW0 := Lib.hid (show OthW c w.heap.size gm w1.heap.size A A2 n cp n2 cp2 w (balesOf c) 0 [] (.slice none 0 0) w1 from ⟨E1.out, B1.out, closes_all HR.out, HX1.out, PathI.nil _ _ _, Own.nil _ _, Nat.le_refl _⟩)
  go_wp2
  refine wp_loop_ghost_k (fun g A' W => ∃ (kk : Nat) (m : List Int) (at_ : Int) (L : List Nat) (A7 : Option Addr) (n7 c7 : Nat), kk ≤ nb ∧ nb - kk ≤ g ∧ Fr 118 [(2, .pointer (some ⟨w.heap.size, 0, none⟩)), (5, .slice Am n2 cm), (6, .int .i64 at_), (7, .slice A7 n7 c7), (19, .slice Ab nb cb), (20, .int .i64 (nb : Int)), (21, .int .i64 (kk : Int))] [] A' ∧
    OthW c w.heap.size gm w1.heap.size A A2 n cp n2 cp2 w m at_ L (.slice A7 n7 c7) W) nb ?_ ?_
  · exact ⟨0, balesOf c, 0, [], none, 0, 0, by omega, by omega, ⟨rfl, rfl, by simp [Act.eval]⟩, HW0.out⟩
  · rintro g A' W ⟨kk, m, at_, L, A7, n7, c7, hkk, hg, hF, hW⟩ J K' hJ hK
    have HJ := Lib.hid hJ; have HW := Lib.hid hW
    obtain ⟨ρ, rfl, hρ⟩ := hF.open_
    simp only [List.forall_mem_cons] at hρ
    obtain ⟨r2, r5, r6, r7, r19, r20, r21, -⟩ := hρ
    simp only [lst, Nat.reduceAdd, r2, r5, r6, r7, r19, r20, r21]
    clear r2 r5 r6 r7 r19 r20 r21 hF hW hJ
    have HSM := Lib.hid (show SlI W (.slice Am n2 cm) m from by
      have hl : m.length = n2 := by rw [HW.out.cl.len]; exact HN.out.symm
      by_cases h0 : 0 < n2
      · have := (HW.out.x h0).sl (c := cm) (by omega) (by obtain ⟨_, _, e, _, h, _⟩ := HS0.out; injection e with _ _ e; omega)
        rw [hl] at this
        rw [HAM.out h0]
        exact this
      · have hm : m = [] := List.eq_nil_of_length_eq_zero (by omega)
        subst hm
        obtain ⟨a', c', e, h1, h2, _⟩ := HS0.out
        injection e with _ e1 e2
        subst e2
        exact ⟨Am, cm, by rw [show n2 = 0 by omega]; rfl, Nat.zero_le _, h2, fun h => absurd h (by simp)⟩)
    by_cases hlt : kk < nb
    · have hltz : (kk : Int) < (nb : Int) := by omega
      obtain ⟨bb, ob, k, rfl, hkx, -, hcell⟩ := HBS.out.at_ hlt
      have hk := HB.out k (List.mem_of_getElem? hkx)
      have c0 : W.cell? ⟨bb, ob + kk, none⟩ = some (.int .u8 k) := by simpa using hcell W HW.out.e 0 _ rfl
      have t0 := HW.out.b.c2
      clear hkx hcell
      by_cases hn0 : n = 0
      · have hnz : (n : Int) = 0 := by omega
        go_wp2
        go_ret
        exact ⟨⟨_, m, rfl, HSM.out, HW.out.cl⟩, HW.out.e⟩
      · have hnz : ¬ (n : Int) = 0 := by omega
        have h7 : n7 = L.length := by
          have := HW.out.p
          obtain ⟨a', c', e, _⟩ := (HW.out.p.sl (fun _ => rfl) : Sl encN 1 W (.slice A7 n7 c7) L)
          injection e
        by_cases hL : L = []
        · have h70 : n7 = 0 := by rw [h7, hL]; rfl
          have HL0 := Lib.hid hL
          clear hL h7
          subst h70
          go_wp2
          clear t0 c0
          obtain ⟨wz, hwz⟩ : ∃ wz, wz = W := ⟨_, rfl⟩
          subst hwz
          have hnq : (n : Int) ≠ 0 := hnz
          have hkw : IntKind.i64.wrap k = k := by rw [IntKind.wrap_i64]; omega
          obtain ⟨q, hq, hqn⟩ := remz_nat (a := k) hk.1 (show 0 < n by omega)
          have hqz : (q : Int) < (n : Int) := by omega
          obtain ⟨bq, oq, h, rfl, hhq, -, hch⟩ := HH.out.at_ hqn
          have HHQ := Lib.hid (List.mem_of_getElem? hhq)
          have m0 := fun V (hV : Ext wz V) => (HW.out.b.ext hV).c2
          have m1 := fun V (hV : Ext wz V) => (show V.cell? ⟨bq, oq + q, none⟩ = some (.int .i64 h) by simpa using hch V (HW.out.e.trans hV) 0 _ rfl)
          clear hhq hch
          refine wp_region_tame (fun W => Ext wz W) (fun W W' => Ext W W') (by kernel_rfl) 118 rfl (by decide +kernel) (Ext.refl _).drew ?_
          repeat (apply tame_q rfl; (intro ρ W hC hr hD; (obtain ⟨hrc, hrg, hrf, hrs⟩ := hr); (simp [go_sem] at hD); go_simp; first | exact ⟨⟨hC, Ext.refl _⟩, rfl⟩ | exact ⟨⟨hC, RS.refl _⟩, rfl⟩ | exact rfl); simp only [List.nil_append, List.cons_append])
          refine tame_end_put rfl rfl (fun ρ W hC hr hF => ?_)
          simp [go_sem] at hF
          simp only [putF, hF, List.set_cons_succ, List.set_cons_zero]
          clear hF hr
          have HW2 := Lib.hid (show OthW c w.heap.size gm w1.heap.size (some ⟨bq, oq, none⟩) A2 n cp n2 cp2 w m h L (.slice A7 0 c7) W from ⟨HW.out.e.trans hC, HW.out.b.ext hC, HW.out.cl, fun h0 => (HW.out.x h0).ext hC, by rw [HL0.out]; exact PathI.nil _ _ _, HW.out.p.ext hC, Nat.le_trans HW.out.z hC.size⟩)
          clear hC m0 m1 hkw hq hqz hnq
          have t0 := HW2.out.b.c2
          go_upto_block 2 with (fail)
          refine scan_wp (c := c) (m := m) (b := w.heap.size) (gm := gm) (N := n2) (n := n) (cp := cp) (cp2 := cp2) (cm := cm) (nb := nb) (A := (some ⟨bq, oq, none⟩)) (A2 := A2) (Am := Am) (at_ := h) (k := k) (pv := .slice A7 0 c7) (v19 := .slice (some ⟨bb, ob, none⟩) nb cb) (v21 := .int .i64 (kk : Int)) HN.out hN9 (by have := HW2.out.cl.len; have := HN.out; omega) hk ⟨rfl, rfl, by simp [Act.eval]⟩ HW2.out.b (HS.out.ext HW2.out.e) (fun h => ⟨HAM.out h, HW2.out.x h⟩) ?_
          intro A3 nx hF3 hnx
          have HNX := Lib.hid hnx
          obtain ⟨ρ, rfl, hρ⟩ := hF3.open_
          simp only [List.forall_mem_cons] at hρ
          obtain ⟨r2, r5, r6, r7, r9, r10, r19, r20, r21, -⟩ := hρ
          simp only [lst, Nat.reduceAdd, r2, r5, r6, r7, r9, r10, r19, r20, r21]
          clear r2 r5 r6 r7 r9 r10 r19 r20 r21 hF3 hnx
          rcases HNX.out with hnx | ⟨j, x, y, hnx, hx, hy, h0, hsel⟩
          · subst hnx
            go_wp2
            exact Handed.intro (nb - (kk + 1)) (by omega) (HJ.out _ _ _ ⟨kk + 1, m, h, [], none, 0, 0, by omega, by omega, ⟨rfl, rfl, by simp [Act.eval]⟩, HW2.out.e, HW2.out.b, HW2.out.cl, HW2.out.x, PathI.nil _ _ _, Own.nil _ _, HW2.out.z⟩)
          · subst hnx
            have HX := Lib.hid hx; have HY := Lib.hid hy; have H0 := Lib.hid h0; have HSL := Lib.hid hsel
            have hj2 : j < n2 := by have := (List.getElem?_eq_some_iff.1 hx).1; have := HN.out; omega
            have hjz : (j : Int) < (n2 : Int) := by omega
            have hjn : ¬ (j : Int) < 0 := by omega
            have hL9 : L.length ≤ 10 := Nat.le_trans HW2.out.pi.len hN10
            obtain ⟨rfl, -⟩ : Am = some ⟨gm, 0, none⟩ ∧ True := ⟨HAM.out (by omega), trivial⟩
            have hgm := HGM.out (by omega)
            have hzz := HW2.out.z
            clear hx hy h0 hsel HNX
            go_wp2_with (at_builtin; refine wpList_app encN 22 3 1 _ 8 Tryd.underlying22 info3x rfl (by decide) (by decide) (fun _ => rfl) encN_one rfl (.tmp 75) (.tmp 77) rfl w1.heap.size _ L rfl (HW2.out.p.alloc _) _ 1 j rfl (cells1 (by simp [go_sem])) (by omega) (by simp; omega) ?_)
            intro g cap w3 hown hg1 hbel hgr
            have HOW := Lib.hid hown
            have E3 := Lib.hid (show Ext w w3 from Below.trans (HW2.out.e.alloc _) (Below.mono hbel (by have := E1.out.size; omega)))
            have B3 := Lib.hid (show Blk w3 w.heap.size 25 _ from (HW2.out.b.alloc _).below hbel (by have := B1.out.lt; omega))
            have X3 := Lib.hid (show RowX w3 gm m from ((HW2.out.x (by omega)).alloc _).at_ (hbel.block gm (by omega)))
            have HZ3 := Lib.hid hbel.size
            clear hown hbel hgr
            have t0 := B3.out.c2
            obtain ⟨bs, os, x', eS, hx', -, hcs⟩ := HS.out.at_ hj2
            cases eS
            obtain rfl : x' = x := by rw [HX.out] at hx'; injection hx' with h; exact h.symm
            have c2 := (SlL.cells hcs E3.out).2.2.1
            clear hx' hcs
            go_upto_block 4 with (fail)
            clear t0 c2
            obtain ⟨hps, hpn, hpb⟩ := path_snoc HR.out HW2.out.pi HHQ.out HX.out HY.out H0.out HSL.out
            have HPN := Lib.hid hpn
            refine ring_wp (c := c) (m := m) (P := L ++ [j]) (b := w.heap.size) (gm := gm) (N := n2) (n := n) (cp := cp) (cp2 := cp2) (cm := cm) (np := L.length + 1) (cpp := cap) (nb := nb) (A := (some ⟨bq, oq, none⟩)) (A2 := some ⟨bs, os, none⟩) (Ap := some ⟨g, 0, none⟩) (at_ := x'.buyer) (v9 := .int .u8 k) (v10 := .int .i64 (j : Int)) (v19 := .slice (some ⟨bb, ob, none⟩) nb cb) (v21 := .int .i64 (kk : Int))
              HN.out (by have := HW2.out.cl.len; have := HN.out; omega) (fun y hy => by have := closes_nine HR.out HW2.out.cl y hy; omega) (by simp) (by omega) (List.Pairwise.of_map _ (fun a b h e => h (by rw [e])) HPN.out) (fun q hq => by
                obtain ⟨b9, _, hr9⟩ := hps
                obtain ⟨z9, _, hz9, _⟩ := rode_pos hr9 q hq
                have := (List.getElem?_eq_some_iff.1 hz9).1
                have := HN.out
                omega) ⟨rfl, rfl, by simp [Act.eval]⟩ B3.out (HS.out.ext E3.out) X3.out (show Sl encN 1 w3 (.slice (some ⟨g, 0, none⟩) (L.length + 1) cap) (L ++ [j]) from Own.sl (enc := encN) (fun _ => rfl) HOW.out) (fun b o e => by injection e with e; injection e with e _ _; omega) ?_ ?_
            · intro A4 hF4 hno
              have HPI := Lib.hid (path_on HR.out HW2.out.pi HHQ.out HX.out HY.out H0.out HSL.out hno)
              obtain ⟨ρ, rfl, hρ⟩ := hF4.open_
              simp only [List.forall_mem_cons] at hρ
              obtain ⟨r2, r5, r6, r7, r19, r20, r21, -⟩ := hρ
              simp only [lst, Nat.reduceAdd, r2, r5, r6, r7, r19, r20, r21]
              clear r2 r5 r6 r7 r19 r20 r21 hF4 hno hps hpn hpb
              go_wp2
              exact Handed.intro (nb - (kk + 1)) (by omega) (HJ.out _ _ _ ⟨kk + 1, m, x'.buyer, L ++ [j], some ⟨g, 0, none⟩, L.length + 1, cap, by omega, by omega, ⟨rfl, rfl, by simp [Act.eval]⟩, E3.out, B3.out, HW2.out.cl, fun _ => X3.out, HPI.out, HOW.out, by have := HZ3.out; simp only [World.size_alloc] at *; omega⟩)
            · intro A4 W4 i9 k9 z9 hF4 h1 h2 h3 hG4 hX4
              obtain ⟨hcl4, -, -⟩ := path_ring HR.out HW2.out.cl HW2.out.pi HHQ.out HX.out HY.out H0.out HSL.out h1 h2 h3
              have HCL4 := Lib.hid hcl4; have HG4 := Lib.hid hG4; have HX4 := Lib.hid hX4
              obtain ⟨ρ, rfl, hρ⟩ := hF4.open_
              simp only [List.forall_mem_cons] at hρ
              obtain ⟨r2, r5, r6, r7, r19, r20, r21, -⟩ := hρ
              simp only [lst, Nat.reduceAdd, r2, r5, r6, r7, r19, r20, r21]
              clear r2 r5 r6 r7 r19 r20 r21 hF4 hps hpn hpb hcl4 hG4 hX4 h1 h2 h3
              go_wp2
              exact Handed.intro (nb - (kk + 1)) (by omega) (HJ.out _ _ _ ⟨kk + 1, decL m ((L ++ [j]).drop i9), x'.buyer, [], none, 0, 0, by omega, by omega, ⟨rfl, rfl, by simp [Act.eval]⟩, ext_grownL E3.out HG4.out (by omega), (HG4.out.block _ B3.out.lt (by intro e; injection e with e; omega)).trans B3.out, HCL4.out, fun _ => HX4.out, PathI.nil _ _ _, Own.nil _ _, by have := HZ3.out; have := HG4.out.size; simp only [World.size_alloc] at *; omega⟩)
        · have h70 : ¬ (n7 : Int) = 0 := by
            rw [h7]; intro e; exact hL (List.eq_nil_of_length_eq_zero (by omega))
          have h71 : ¬ n7 = 0 := by omega
          have HHQ := Lib.hid (HW.out.pi.at0 hL)
          clear hL h7
          go_upto_block 2 with (fail)
          refine scan_wp (c := c) (m := m) (b := w.heap.size) (gm := gm) (N := n2) (n := n) (cp := cp) (cp2 := cp2) (cm := cm) (nb := nb) (A := A) (A2 := A2) (Am := Am) (at_ := at_) (k := k) (pv := .slice A7 n7 c7) (v19 := .slice (some ⟨bb, ob, none⟩) nb cb) (v21 := .int .i64 (kk : Int)) HN.out hN9 (by have := HW.out.cl.len; have := HN.out; omega) hk ⟨rfl, rfl, by simp [Act.eval]⟩ HW.out.b (HS.out.ext HW.out.e) (fun h => ⟨HAM.out h, HW.out.x h⟩) ?_
          intro A3 nx hF3 hnx
          have HNX := Lib.hid hnx
          obtain ⟨ρ, rfl, hρ⟩ := hF3.open_
          simp only [List.forall_mem_cons] at hρ
          obtain ⟨r2, r5, r6, r7, r9, r10, r19, r20, r21, -⟩ := hρ
          simp only [lst, Nat.reduceAdd, r2, r5, r6, r7, r9, r10, r19, r20, r21]
          clear r2 r5 r6 r7 r9 r10 r19 r20 r21 hF3 hnx
          rcases HNX.out with hnx | ⟨j, x, y, hnx, hx, hy, h0, hsel⟩
          · subst hnx
            go_wp2
            exact Handed.intro (nb - (kk + 1)) (by omega) (HJ.out _ _ _ ⟨kk + 1, m, at_, [], none, 0, 0, by omega, by omega, ⟨rfl, rfl, by simp [Act.eval]⟩, HW.out.e, HW.out.b, HW.out.cl, HW.out.x, PathI.nil _ _ _, Own.nil _ _, HW.out.z⟩)
          · subst hnx
            have HX := Lib.hid hx; have HY := Lib.hid hy; have H0 := Lib.hid h0; have HSL := Lib.hid hsel
            have hj2 : j < n2 := by have := (List.getElem?_eq_some_iff.1 hx).1; have := HN.out; omega
            have hjz : (j : Int) < (n2 : Int) := by omega
            have hjn : ¬ (j : Int) < 0 := by omega
            have hL9 : L.length ≤ 10 := Nat.le_trans HW.out.pi.len hN10
            obtain ⟨rfl, -⟩ : Am = some ⟨gm, 0, none⟩ ∧ True := ⟨HAM.out (by omega), trivial⟩
            have hgm := HGM.out (by omega)
            have hzz := HW.out.z
            clear hx hy h0 hsel HNX
            go_wp2_with (at_builtin; refine wpList_app encN 22 3 1 _ 8 Tryd.underlying22 info3x rfl (by decide) (by decide) (fun _ => rfl) encN_one rfl (.tmp 75) (.tmp 77) rfl w1.heap.size _ L rfl (HW.out.p.alloc _) _ 1 j rfl (cells1 (by simp [go_sem])) (by omega) (by simp; omega) ?_)
            intro g cap w3 hown hg1 hbel hgr
            have HOW := Lib.hid hown
            have E3 := Lib.hid (show Ext w w3 from Below.trans (HW.out.e.alloc _) (Below.mono hbel (by have := E1.out.size; omega)))
            have B3 := Lib.hid (show Blk w3 w.heap.size 25 _ from (HW.out.b.alloc _).below hbel (by have := B1.out.lt; omega))
            have X3 := Lib.hid (show RowX w3 gm m from ((HW.out.x (by omega)).alloc _).at_ (hbel.block gm (by omega)))
            have HZ3 := Lib.hid hbel.size
            clear hown hbel hgr
            have t0 := B3.out.c2
            obtain ⟨bs, os, x', eS, hx', -, hcs⟩ := HS.out.at_ hj2
            cases eS
            obtain rfl : x' = x := by rw [HX.out] at hx'; injection hx' with h; exact h.symm
            have c2 := (SlL.cells hcs E3.out).2.2.1
            clear hx' hcs
            go_upto_block 4 with (fail)
            clear t0 c2
            obtain ⟨hps, hpn, hpb⟩ := path_snoc HR.out HW.out.pi HHQ.out HX.out HY.out H0.out HSL.out
            have HPN := Lib.hid hpn
            refine ring_wp (c := c) (m := m) (P := L ++ [j]) (b := w.heap.size) (gm := gm) (N := n2) (n := n) (cp := cp) (cp2 := cp2) (cm := cm) (np := L.length + 1) (cpp := cap) (nb := nb) (A := A) (A2 := some ⟨bs, os, none⟩) (Ap := some ⟨g, 0, none⟩) (at_ := x'.buyer) (v9 := .int .u8 k) (v10 := .int .i64 (j : Int)) (v19 := .slice (some ⟨bb, ob, none⟩) nb cb) (v21 := .int .i64 (kk : Int))
              HN.out (by have := HW.out.cl.len; have := HN.out; omega) (fun y hy => by have := closes_nine HR.out HW.out.cl y hy; omega) (by simp) (by omega) (List.Pairwise.of_map _ (fun a b h e => h (by rw [e])) HPN.out) (fun q hq => by
                obtain ⟨b9, _, hr9⟩ := hps
                obtain ⟨z9, _, hz9, _⟩ := rode_pos hr9 q hq
                have := (List.getElem?_eq_some_iff.1 hz9).1
                have := HN.out
                omega) ⟨rfl, rfl, by simp [Act.eval]⟩ B3.out (HS.out.ext E3.out) X3.out (show Sl encN 1 w3 (.slice (some ⟨g, 0, none⟩) (L.length + 1) cap) (L ++ [j]) from Own.sl (enc := encN) (fun _ => rfl) HOW.out) (fun b o e => by injection e with e; injection e with e _ _; omega) ?_ ?_
            · intro A4 hF4 hno
              have HPI := Lib.hid (path_on HR.out HW.out.pi HHQ.out HX.out HY.out H0.out HSL.out hno)
              obtain ⟨ρ, rfl, hρ⟩ := hF4.open_
              simp only [List.forall_mem_cons] at hρ
              obtain ⟨r2, r5, r6, r7, r19, r20, r21, -⟩ := hρ
              simp only [lst, Nat.reduceAdd, r2, r5, r6, r7, r19, r20, r21]
              clear r2 r5 r6 r7 r19 r20 r21 hF4 hno hps hpn hpb
              go_wp2
              exact Handed.intro (nb - (kk + 1)) (by omega) (HJ.out _ _ _ ⟨kk + 1, m, x'.buyer, L ++ [j], some ⟨g, 0, none⟩, L.length + 1, cap, by omega, by omega, ⟨rfl, rfl, by simp [Act.eval]⟩, E3.out, B3.out, HW.out.cl, fun _ => X3.out, HPI.out, HOW.out, by have := HZ3.out; simp only [World.size_alloc] at *; omega⟩)
            · intro A4 W4 i9 k9 z9 hF4 h1 h2 h3 hG4 hX4
              obtain ⟨hcl4, -, -⟩ := path_ring HR.out HW.out.cl HW.out.pi HHQ.out HX.out HY.out H0.out HSL.out h1 h2 h3
              have HCL4 := Lib.hid hcl4; have HG4 := Lib.hid hG4; have HX4 := Lib.hid hX4
              obtain ⟨ρ, rfl, hρ⟩ := hF4.open_
              simp only [List.forall_mem_cons] at hρ
              obtain ⟨r2, r5, r6, r7, r19, r20, r21, -⟩ := hρ
              simp only [lst, Nat.reduceAdd, r2, r5, r6, r7, r19, r20, r21]
              clear r2 r5 r6 r7 r19 r20 r21 hF4 hps hpn hpb hcl4 hG4 hX4 h1 h2 h3
              go_wp2
              exact Handed.intro (nb - (kk + 1)) (by omega) (HJ.out _ _ _ ⟨kk + 1, decL m ((L ++ [j]).drop i9), x'.buyer, [], none, 0, 0, by omega, by omega, ⟨rfl, rfl, by simp [Act.eval]⟩, ext_grownL E3.out HG4.out (by omega), (HG4.out.block _ B3.out.lt (by intro e; injection e with e; omega)).trans B3.out, HCL4.out, fun _ => HX4.out, PathI.nil _ _ _, Own.nil _ _, by have := HZ3.out; have := HG4.out.size; simp only [World.size_alloc] at *; omega⟩)
    · go_wp2
      go_ret
      exact ⟨⟨_, m, rfl, HSM.out, HW.out.cl⟩, HW.out.e⟩
end Go.Proofs.YtafdbgielmlihaaDoor
/- Proof: the program's. -/
namespace Go.Proofs.YtafdbgielmlihaaDoor
open Go.RowKit Go.Shelf Go.Lib
set_option maxRecDepth 100000
set_option linter.unusedSimpArgs false

theorem equal_any (l l' : List Int) (v v' : Value) (w : World) (h : SlI w v l) (h' : SlI w v' l') :
    Calls Tryd.prog 82 #[v, v'] w fun e w' => e = .returned (.bool (decide (l = l'))) ∧ Ext w w' := by
  have HA := Lib.hid h; have HB := Lib.hid h'
  obtain ⟨A, n, cp, rfl, hn, hlc, hcm⟩ := h.form
  obtain ⟨A2, n2, cp2, rfl, hn2, hlc2, hcm2⟩ := h'.form
  clear h h'
  go_enter Tryd.func82, Tryd.ntmps82
  by_cases hnn : n2 = n
  · subst hnn
    go_wp2
    refine wp_loop_ghost_k (fun g A' W => ∃ (k : Nat), k ≤ n2 ∧ n2 - k ≤ g ∧ Fr 26 [(0, .slice A n2 cp), (1, .slice A2 n2 cp2), (12, .int .i64 (n2 : Int)), (13, .int .i64 (k : Int))] [] A' ∧ Ext w W ∧ l.take k = l'.take k) n2 ?_ ?_
    · exact ⟨0, by omega, by omega, ⟨rfl, rfl, by simp [Act.eval]⟩, Ext.refl _, by simp⟩
    · rintro g A' U ⟨k, hk, hg, hF, hE, ht⟩ J K' hJ hK'
      have HJ := Lib.hid hJ; have EU := Lib.hid hE; have HT := Lib.hid ht
      obtain ⟨ρ, rfl, hρ⟩ := hF.open_
      simp only [List.forall_mem_cons] at hρ
      obtain ⟨r0, r1, r12, r13, -⟩ := hρ
      simp only [lst, Nat.reduceAdd, r0, r1, r12, r13]
      clear r0 r1 r12 r13 hF hE ht hJ
      by_cases hlt : k < n2
      · have hltz : (k : Int) < (n2 : Int) := by omega
        obtain ⟨b, off, x, rfl, hx, -, hcell⟩ := HA.out.at_ hlt
        obtain ⟨b', off', y, rfl, hy, -, hcell'⟩ := HB.out.at_ hlt
        have m0 := fun W (h : Ext U W) => SlI.cell hcell (EU.out.trans h)
        have m1 := fun W (h : Ext U W) => SlI.cell hcell' (EU.out.trans h)
        have HX := Lib.hid hx; have HY := Lib.hid hy
        clear hx hy hcell hcell'
        go_wp2
        by_cases hxy : x = y
        · subst hxy
          refine wp_region_tame (fun W => Ext U W) (fun W W' => Ext W W') (by kernel_rfl) 26 rfl (by decide +kernel) (Ext.refl _).drew ?_
          repeat (apply tame_q rfl; (intro ρ W hC hr hD; (obtain ⟨hrc, hrg, hrf, hrs⟩ := hr); (simp [go_sem] at hD); go_simp; first | exact ⟨⟨hC, Ext.refl _⟩, rfl⟩ | exact ⟨⟨hC, RS.refl _⟩, rfl⟩ | exact rfl); simp only [List.nil_append, List.cons_append])
          refine tame_end 26 rfl rfl (fun ρ W hC hr hF => ?_)
          obtain ⟨hrc, hrg, hrf, hrs⟩ := hr
          simp [go_sem] at hF
          apply frame_to
          · go_simp
            exact rfl
          clear hF hrs hrc hrg hrf
          have HC := Lib.hid hC
          clear hC m0 m1
          go_wp2
          exact Handed.intro (n2 - (k + 1)) (by omega) (HJ.out _ _ _ ⟨k + 1, by omega, Nat.le_refl _, ⟨rfl, rfl, by simp [Act.eval]⟩, EU.out.trans HC.out, by rw [List.take_add_one, List.take_add_one, HX.out, HY.out, HT.out]⟩)
        · have h1 : (x == y) = false := by simpa using hxy
          have HN := Lib.hid (show decide (l = l') = false from decide_eq_false fun e => hxy (by
            have h1 := HX.out; have h2 := HY.out
            rw [e, h2] at h1
            injection h1 with h1
            exact h1.symm))
          clear hxy
          refine wp_region_tame (fun W => Ext U W) (fun W W' => Ext W W') (by kernel_rfl) 26 rfl (by decide +kernel) (Ext.refl _).drew ?_
          repeat (apply tame_q rfl; (intro ρ W hC hr hD; (obtain ⟨hrc, hrg, hrf, hrs⟩ := hr); (simp [go_sem] at hD); go_simp; first | exact ⟨⟨hC, Ext.refl _⟩, rfl⟩ | exact ⟨⟨hC, RS.refl _⟩, rfl⟩ | exact rfl); simp only [List.nil_append, List.cons_append])
          refine tame_end 26 rfl rfl (fun ρ W hC hr hF => ?_)
          obtain ⟨hrc, hrg, hrf, hrs⟩ := hr
          simp [go_sem] at hF
          apply frame_to
          · go_simp
            exact rfl
          clear hF hrs hrc hrg hrf
          have HC := Lib.hid hC
          clear hC m0 m1
          go_wp2
          go_ret
          exact ⟨ret_bool HN.out.symm, EU.out.trans HC.out⟩
      · have HE := Lib.hid (show k = n2 by omega)
        go_wp2
        go_ret
        refine ⟨ret_bool (decide_eq_true ?_).symm, EU.out⟩
        have := HT.out
        rw [List.take_of_length_le (by have := HE.out; have := hn.out; omega), List.take_of_length_le (by have := HE.out; have := hn2.out; omega)] at this
        exact this
  · have hnz : ((n : Int) == (n2 : Int)) = false := by simpa using fun e : (n : Int) = n2 => hnn (by omega)
    have HN := Lib.hid (show decide (l = l') = false from decide_eq_false fun e => hnn (by have := hn.out; have := hn2.out; rw [e] at hn; have := hn.out; omega))
    go_wp2
    go_ret
    exact ⟨ret_bool HN.out.symm, Ext.refl _⟩
theorem set_same {o : List Int} {b : Nat} {y : Int} (h : o[b]? = some y) : o.set b y = o := by
  obtain ⟨h1, h2⟩ := List.getElem?_eq_some_iff.1 h
  rw [← h2]
  exact List.set_getElem_self h1
theorem prU_on {o : List Int} {s b : Nat} {x y : Int} (hs : o[s]? = some x) (hb : o[b]? = some y) : prU s b true o = o.set b (max y (x + 1)) := by
  unfold prU
  rw [hs, hb]
  simp only [Option.getD, Bool.true_and]
  by_cases h : y ≤ x
  · rw [if_pos (decide_eq_true h), show max y (x + 1) = x + 1 by omega]
  · rw [if_neg (by simpa using h), show max y (x + 1) = y by omega]
    exact (set_same hb).symm
theorem prU_off {o : List Int} {s b : Nat} : prU s b false o = o := by simp [prU]
theorem prD_on {o : List Int} {s b : Nat} {x y : Int} (hs : o[s]? = some x) (hb : o[b]? = some y) : prD s b true o = o.set s (max x (y - 1)) := by
  unfold prD
  rw [hs, hb]
  simp only [Option.getD, Bool.true_and]
  by_cases h : x + 1 < y
  · rw [if_pos (decide_eq_true h), show max x (y - 1) = y - 1 by omega]
  · rw [if_neg (by simpa using h), show max x (y - 1) = x by omega]
    exact (set_same hs).symm
theorem prD_off {o : List Int} {s b : Nat} : prD s b false o = o := by simp [prD]
end Go.Proofs.YtafdbgielmlihaaDoor
