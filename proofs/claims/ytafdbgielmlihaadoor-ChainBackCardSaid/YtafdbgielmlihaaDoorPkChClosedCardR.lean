/- Passes: the houses that both sell and buy in the closing; the reference's. -/
import Derived.Test.YtafdbgielmlihaaDoorPkChClosedCardQ
import Derived.Test.YtafdbgielmlihaaDoorPkChClosedCardN
import Derived.Test.YtafdbgielmlihaaDoorPkChClosedCardD
import Derived.Laws.ResultCell
import Derived.Test.YtafdbgielmlihaaDoorPkChClosedCardH
import Derived.Test.YtafdbgielmlihaaDoorPkChClosedCardE
import Derived.Test.YtafdbgielmlihaaDoorPkChClosedCardO
import Derived.Test.YtafdbgielmlihaaDoorPkChClosedCardA
namespace Go.Proofs.YtafdbgielmlihaaDoor
open Go.RowKit Go.Shelf Go.Lib
set_option maxRecDepth 100000
set_option linter.unusedSimpArgs false

def buysB (P : List (Sale × Int)) (h : Int) : Bool := P.any fun p => decide (0 < p.2) && decide (p.1.buyer = h)
def sellsB (P : List (Sale × Int)) (h : Int) : Bool := P.any fun p => decide (0 < p.2) && decide (p.1.seller = h)
def passB (c : Chn) (l : List Int) (h : Int) : Bool := sellsB (c.sales.zip l) h && buysB (c.sales.zip l) h
def passL (c : Chn) (l : List Int) : List Int := c.houses.filter (passB c l)
def passesL (c : Chn) (l : List Int) : List Int := if checkP c then passL c l else []
theorem zip_snoc {c : Chn} {l : List Int} {i : Nat} {x : Sale} {y : Int} (hx : c.sales[i]? = some x) (hy : l[i]? = some y) : (c.sales.zip l).take (i + 1) = (c.sales.zip l).take i ++ [(x, y)] := by
  rw [List.take_add_one, List.getElem?_zip_eq_some (z := (x, y)) |>.2 ⟨hx, hy⟩]
  rfl
theorem buys_snoc {c : Chn} {l : List Int} {i : Nat} {x : Sale} {y : Int} (h : Int) (hx : c.sales[i]? = some x) (hy : l[i]? = some y) : buysB ((c.sales.zip l).take (i + 1)) h = (buysB ((c.sales.zip l).take i) h || (decide (0 < y) && decide (x.buyer = h))) := by
  rw [zip_snoc hx hy]
  simp [buysB]
theorem sells_snoc {c : Chn} {l : List Int} {i : Nat} {x : Sale} {y : Int} (h : Int) (hx : c.sales[i]? = some x) (hy : l[i]? = some y) : sellsB ((c.sales.zip l).take (i + 1)) h = (sellsB ((c.sales.zip l).take i) h || (decide (0 < y) && decide (x.seller = h))) := by
  rw [zip_snoc hx hy]
  simp [sellsB]
theorem zip_all {c : Chn} {l : List Int} {i : Nat} (h : c.sales.length ≤ i) : (c.sales.zip l).take i = c.sales.zip l := List.take_of_length_le (by rw [List.length_zip]; omega)
theorem pass_snoc {c : Chn} {l : List Int} {k : Nat} {h : Int} (hk : c.houses[k]? = some h) : (c.houses.take (k + 1)).filter (passB c l) = (c.houses.take k).filter (passB c l) ++ (if passB c l h then [h] else []) := by
  rw [List.take_add_one, hk, List.filter_append]
  simp [List.filter_cons]
end Go.Proofs.YtafdbgielmlihaaDoor
/- Hands, plain; the reference's on. -/
namespace Go.Proofs.YtafdbgielmlihaaDoor
open Go.RowKit Go.Shelf Go.Lib
set_option maxRecDepth 100000
set_option linter.unusedSimpArgs false

/-- The first sale of the house that still has bales. -/
def onB (h : Int) (p : Sale × Int) : Bool := decide (p.1.seller = h) && decide (0 < p.2)
def onK (c : Chn) (m : List Int) (h : Int) : Option Nat := (c.sales.zip m).findIdx? (onB h)
theorem on_some {c : Chn} {m : List Int} {h : Int} {i : Nat} {x : Sale} {y : Int} (hx : c.sales[i]? = some x) (hy : m[i]? = some y) (hb : ((c.sales.zip m).take i).any (onB h) = false) (h1 : x.seller = h) (h2 : 0 < y) : onK c m h = some i := by
  unfold onK
  have hz : (c.sales.zip m)[i]? = some (x, y) := List.getElem?_zip_eq_some.2 ⟨hx, hy⟩
  obtain ⟨hi, he⟩ := List.getElem?_eq_some_iff.1 hz
  rw [List.findIdx?_eq_some_iff_getElem]
  refine ⟨hi, by rw [he]; simp [onB, h1, h2], fun j hj => ?_⟩
  have hm : (c.sales.zip m)[j] ∈ (c.sales.zip m).take i := by
    rw [List.mem_iff_getElem?]
    exact ⟨j, by rw [List.getElem?_take, if_pos hj]; exact List.getElem?_eq_getElem (by omega)⟩
  have := List.any_eq_false.1 hb _ hm
  simpa using this
theorem on_none {c : Chn} {m : List Int} {h : Int} {i : Nat} (hi : c.sales.length ≤ i) (hb : ((c.sales.zip m).take i).any (onB h) = false) : onK c m h = none := by
  unfold onK
  rw [zip_all hi] at hb
  rw [List.findIdx?_eq_none_iff]
  intro p hp
  have := List.any_eq_false.1 hb p hp
  simpa using this
theorem on_snoc {c : Chn} {m : List Int} {h : Int} {i : Nat} {x : Sale} {y : Int} (hx : c.sales[i]? = some x) (hy : m[i]? = some y) : ((c.sales.zip m).take (i + 1)).any (onB h) = (((c.sales.zip m).take i).any (onB h) || (decide (x.seller = h) && decide (0 < y))) := by
  rw [zip_snoc hx hy]
  simp [onB]
end Go.Proofs.YtafdbgielmlihaaDoor
/- Hands, plain: a bale's way to where it stays, and what each house hands to each. -/
namespace Go.Proofs.YtafdbgielmlihaaDoor
open Go.RowKit Go.Shelf

def mu (m : List Int) : Nat := (m.map Int.toNat).sum
theorem mu_set : ∀ (m : List Int) (i : Nat) (y : Int), m[i]? = some y → 0 < y → mu (m.set i (y - 1)) + 1 = mu m
  | [], _, _, h, _ => by simp at h
  | z :: m, 0, y, h, hy => by
    simp at h
    subst h
    simp only [mu, List.set_cons_zero, List.map_cons, List.sum_cons]
    omega
  | z :: m, i + 1, y, h, hy => by
    have := mu_set m i y (by simpa using h) hy
    simp only [mu, List.set_cons_succ, List.map_cons, List.sum_cons] at this ⊢
    omega
theorem on_ok {c : Chn} {m : List Int} {h : Int} {i : Nat} (hk : onK c m h = some i) : ∃ x y, c.sales[i]? = some x ∧ m[i]? = some y ∧ x.seller = h ∧ 0 < y := by
  unfold onK at hk
  rw [List.findIdx?_eq_some_iff_getElem] at hk
  obtain ⟨hi, hp, -⟩ := hk
  have hz : (c.sales.zip m)[i]? = some ((c.sales.zip m)[i]) := List.getElem?_eq_getElem hi
  obtain ⟨h1, h2⟩ := List.getElem?_zip_eq_some.1 hz
  unfold onB at hp
  simp at hp
  exact ⟨_, _, h1, h2, by simpa using hp.1, by simpa using hp.2⟩
/-- One bale goes on until no sale takes it further. -/
def followF (c : Chn) : Nat → List Int → Int → List Int × Int
  | 0, m, h => (m, h)
  | k + 1, m, h => match onK c m h with
    | none => (m, h)
    | some i => match c.sales[i]?, m[i]? with
      | some x, some y => followF c k (m.set i (y - 1)) x.buyer
      | _, _ => (m, h)
def follow (c : Chn) (m : List Int) (h : Int) : List Int × Int := followF c (mu m) m h
theorem follow_fuel {c : Chn} : ∀ (k : Nat) (m : List Int) (h : Int), mu m ≤ k → followF c k m h = follow c m h := by
  have key : ∀ (k j : Nat) (m : List Int) (h : Int), mu m ≤ k → mu m ≤ j → followF c k m h = followF c j m h := by
    intro k
    induction k with
    | zero =>
      intro j m h hk hj
      cases j with
      | zero => rfl
      | succ j =>
        unfold followF
        cases ho : onK c m h with
        | none => rfl
        | some i =>
          obtain ⟨x, y, h1, h2, -, h4⟩ := on_ok ho
          have := mu_set m i y h2 h4
          omega
    | succ k ih =>
      intro j m h hk hj
      cases ho : onK c m h with
      | none =>
        have e1 : followF c (k + 1) m h = (m, h) := by unfold followF; rw [ho]
        rw [e1]
        cases j with
        | zero => rfl
        | succ j => unfold followF; rw [ho]
      | some i =>
        obtain ⟨x, y, h1, h2, -, h4⟩ := on_ok ho
        have hm := mu_set m i y h2 h4
        cases j with
        | zero => omega
        | succ j =>
          unfold followF
          rw [ho]
          simp only [h1, h2]
          exact ih j _ _ (by omega) (by omega)
  intro k m h hk
  exact key k (mu m) m h hk (Nat.le_refl _)
theorem follow_stop {c : Chn} {m : List Int} {h : Int} (ho : onK c m h = none) : follow c m h = (m, h) := by
  rw [← follow_fuel (mu m + 1) m h (by omega)]
  unfold followF
  rw [ho]
theorem follow_step {c : Chn} {m : List Int} {h : Int} {i : Nat} {x : Sale} {y : Int} (ho : onK c m h = some i) (hx : c.sales[i]? = some x) (hy : m[i]? = some y) : follow c m h = follow c (m.set i (y - 1)) x.buyer := by
  obtain ⟨x', y', h1, h2, -, h4⟩ := on_ok ho
  rw [hy] at h2
  injection h2 with h2
  subst h2
  have hm := mu_set m i y hy h4
  rw [← follow_fuel (mu (m.set i (y - 1)) + 1) m h (by omega)]
  unfold followF
  rw [ho]
  simp only [hx, hy]
  rfl
/-- What holds at each step holds at the end. -/
theorem follow_ind {c : Chn} {P : List Int → Int → Prop} (hs : ∀ (m : List Int) (h : Int) (i : Nat) (x : Sale) (y : Int), onK c m h = some i → c.sales[i]? = some x → m[i]? = some y → 0 < y → P m h → P (m.set i (y - 1)) x.buyer) :
    ∀ (k : Nat) (m : List Int) (h : Int), mu m ≤ k → P m h → P (follow c m h).1 (follow c m h).2 := by
  intro k
  induction k with
  | zero =>
    intro m h hk hP
    cases ho : onK c m h with
    | none => rw [follow_stop ho]; exact hP
    | some i =>
      obtain ⟨x, y, h1, h2, -, h4⟩ := on_ok ho
      have := mu_set m i y h2 h4
      omega
  | succ k ih =>
    intro m h hk hP
    cases ho : onK c m h with
    | none => rw [follow_stop ho]; exact hP
    | some i =>
      obtain ⟨x, y, h1, h2, -, h4⟩ := on_ok ho
      have hm := mu_set m i y h2 h4
      rw [follow_step ho h1 h2]
      exact ih _ _ (by omega) (hs m h i x y ho h1 h2 h4 hP)
/-- Moves stay moves; a house stays a house. -/
structure Mvs (c : Chn) (m : List Int) : Prop where
  l : m.length = c.sales.length
  b : ∀ y ∈ m, 0 ≤ y ∧ y ≤ 9
theorem follow_ok {c : Chn} (hR : Right c) {m : List Int} {h : Int} (hm : Mvs c m) (hh : h ∈ c.houses) : Mvs c (follow c m h).1 ∧ (follow c m h).2 ∈ c.houses := by
  refine follow_ind (P := fun m h => Mvs c m ∧ h ∈ c.houses) ?_ (mu m) m h (Nat.le_refl _) ⟨hm, hh⟩
  rintro m h i x y ho hx hy h0 ⟨h1, h2⟩
  refine ⟨⟨by rw [List.length_set]; exact h1.l, fun z hz => ?_⟩, (hR.sale x (List.mem_of_getElem? hx)).2.2.1⟩
  rcases List.mem_or_eq_of_mem_set hz with hz | rfl
  · exact h1.b z hz
  · have := h1.b y (List.mem_of_getElem? hy)
    omega
end Go.Proofs.YtafdbgielmlihaaDoor
/- The reference's Hands, part one: a bale's way. -/
namespace Go.Proofs.YtafdbgielmlihaaDoor
open Go.RowKit Go.Shelf Go.Lib
set_option maxRecDepth 100000
set_option linter.unusedSimpArgs false

theorem RowX.alloc {w : World} {g : Nat} {m : List Int} (h : RowX w g m) (o : Obj) : RowX (w.alloc o) g m := h.ext (Ext.al _ _)
end Go.Proofs.YtafdbgielmlihaaDoor
/- Hands, plain: what each house hands to each. -/
namespace Go.Proofs.YtafdbgielmlihaaDoor
open Go.RowKit Go.Shelf

/-- So many bales of the house go on; a row counts where they stay. -/
def handRow (c : Chn) (h : Int) : Nat → List Int × List Int → List Int × List Int
  | 0, s => s
  | k + 1, s => ((follow c (handRow c h k s).1 h).1, bump (handRow c h k s).2 (houseI c (follow c (handRow c h k s).1 h).2).toNat 1)
structure Hnd where
  a : Int
  b : Int
  n : Int
def outRow (c : Chn) (h : Int) (row : List Int) : List Hnd := ((c.houses.zip row).filter fun p => decide (0 < p.2)).map fun p => ⟨h, p.1, p.2⟩
/-- The first k houses are through. -/
def handsTo (c : Chn) (l gets : List Int) : Nat → List Int × List Hnd
  | 0 => (l, [])
  | k + 1 => match c.houses[k]?, gets[k]? with
    | some h, some g => ((handRow c h (-g).toNat ((handsTo c l gets k).1, List.replicate c.houses.length 0)).1, (handsTo c l gets k).2 ++ outRow c h (handRow c h (-g).toNat ((handsTo c l gets k).1, List.replicate c.houses.length 0)).2)
    | _, _ => handsTo c l gets k
def handsL (c : Chn) (l : List Int) : List Hnd := if checkP c then (handsTo c l (getsL c l) c.houses.length).2 else []
theorem handRow_ok {c : Chn} (hR : Right c) {h : Int} (hh : h ∈ c.houses) {m : List Int} (hm : Mvs c m) {B : Int} {row : List Int} (hrl : row.length = c.houses.length) (hb : ∀ y ∈ row, 0 ≤ y ∧ y ≤ B) :
    ∀ k, Mvs c (handRow c h k (m, row)).1 ∧ (handRow c h k (m, row)).2.length = c.houses.length ∧ ∀ y ∈ (handRow c h k (m, row)).2, 0 ≤ y ∧ y ≤ B + k
  | 0 => ⟨hm, hrl, fun y hy => by have := hb y hy; omega⟩
  | k + 1 => by
    obtain ⟨h1, h2, h3⟩ := handRow_ok hR hh hm hrl hb k
    refine ⟨(follow_ok hR h1 hh).1, by rw [handRow, bump_len]; exact h2, fun y hy => ?_⟩
    rw [handRow] at hy
    obtain ⟨i, hi⟩ := List.getElem?_of_mem hy
    rw [bump_get] at hi
    obtain ⟨z, hz, rfl⟩ := Option.map_eq_some_iff.1 hi
    have := h3 z (List.mem_of_getElem? hz)
    split <;> omega
end Go.Proofs.YtafdbgielmlihaaDoor
/- Memory of which two blocks may turn. -/
namespace Go.Proofs.YtafdbgielmlihaaDoor
open Go.RowKit Go.Shelf Go.Lib

structure TwoG (g1 g2 : Nat) (A B : World) : Prop where
  os : B.os = A.os
  tape : B.tape = A.tape
  output : B.output = A.output
  size : A.heap.size ≤ B.heap.size
  block : ∀ i, i < A.heap.size → i ≠ g1 → i ≠ g2 → B.heap[i]? = A.heap[i]?
theorem TwoG.refl (g1 g2 : Nat) (A : World) : TwoG g1 g2 A A := ⟨rfl, rfl, rfl, Nat.le_refl _, fun _ _ _ _ => rfl⟩
theorem TwoG.one {g1 g2 g : Nat} {A B C : World} (h : TwoG g1 g2 A B) (k : B.grownBy C (some g)) (hg : g = g1 ∨ g = g2) : TwoG g1 g2 A C :=
  ⟨k.os.trans h.os, k.tape.trans h.tape, k.output.trans h.output, Nat.le_trans h.size k.size, fun i hi h1 h2 => (k.block i (Nat.lt_of_lt_of_le hi h.size) (by
    intro e; injection e with e
    rcases hg with rfl | rfl
    · exact h1 e
    · exact h2 e)).trans (h.block i hi h1 h2)⟩
theorem Blk.two {g1 g2 g : Nat} {A B : World} {t : TypeId} {cs : Array Value} (h : Blk A g t cs) (k : TwoG g1 g2 A B) (h1 : g ≠ g1) (h2 : g ≠ g2) : Blk B g t cs := (k.block g h.lt h1 h2).trans h
theorem Sl.two {α : Type} {enc : α → List Value} {sz g1 g2 : Nat} {A B : World} {a : Option Addr} {n c : Nat} {l : List α} (h : Sl enc sz A (.slice a n c) l) (k : TwoG g1 g2 A B) (hx : 0 < l.length → ∀ b o, a = some ⟨b, o, none⟩ → b ≠ g1 ∧ b ≠ g2) : Sl enc sz B (.slice a n c) l := by
  obtain ⟨a', c', hv, hl, hc, hcell⟩ := h
  injection hv with e1 e2 e3
  subst e1 e2 e3
  refine ⟨_, _, rfl, hl, hc, fun h0 => ?_⟩
  obtain ⟨b, off, hA, hb, hcell⟩ := hcell h0
  refine ⟨b, off, hA, Nat.lt_of_lt_of_le hb k.size, fun i x hi j u hu => ?_⟩
  exact (World.cell?_of_block (a := ⟨b, _, none⟩) (k.block b hb (hx h0 b off hA).1 (hx h0 b off hA).2)).trans (hcell i x hi j u hu)
end Go.Proofs.YtafdbgielmlihaaDoor
/- The reference's Hands, part four: a house's row is put out. -/
namespace Go.Proofs.YtafdbgielmlihaaDoor
open Go.RowKit Go.Shelf Go.Lib
set_option maxRecDepth 100000
set_option linter.unusedSimpArgs false

def encHd (x : Hnd) : List Value := [.int .i64 x.a, .int .i64 x.b, .int .i64 x.n]
theorem encHd_1 : ∀ x, ∀ u ∈ encHd x, u.oneCell' = true := by
  intro x u hu
  simp only [encHd, List.mem_cons, List.not_mem_nil, or_false] at hu
  rcases hu with rfl | rfl | rfl <;> rfl
theorem info99x : (Tryd.prog.info? 99).map (fun i => (i.zero, i.size, i.bytes)) = some (some (.agg #[.int .i64 0, .int .i64 0, .int .i64 0]), 3, 24) := by kernel_rfl
theorem cells3h {w : World} {b : Nat} {x y z : Value} (h0 : w.cell? ⟨b, 0, none⟩ = some x) (h1 : w.cell? ⟨b, 1, none⟩ = some y) (h2 : w.cell? ⟨b, 2, none⟩ = some z) : ∀ (j : Nat) (u : Value), [x, y, z][j]? = some u → w.cell? ⟨b, j, none⟩ = some u := by
  intro j u hu
  match j, hu with
  | 0, hu => simp at hu; subst hu; exact h0
  | 1, hu => simp at hu; subst hu; exact h1
  | 2, hu => simp at hu; subst hu; exact h2
  | j + 3, hu => simp at hu
def outTo (c : Chn) (h : Int) (row : List Int) (k : Nat) : List Hnd := (((c.houses.zip row).take k).filter fun p => decide (0 < p.2)).map fun p => ⟨h, p.1, p.2⟩
theorem outTo_succ {c : Chn} {h : Int} {row : List Int} {k : Nat} {t y : Int} (ht : c.houses[k]? = some t) (hy : row[k]? = some y) : outTo c h row (k + 1) = outTo c h row k ++ (if 0 < y then [⟨h, t, y⟩] else []) := by
  unfold outTo
  rw [List.take_add_one, (List.getElem?_zip_eq_some (z := (t, y))).2 ⟨ht, hy⟩, Option.toList_some, List.filter_append, List.map_append]
  congr 1
  by_cases h0 : 0 < y <;> simp [h0]
theorem outTo_all {c : Chn} {h : Int} {row : List Int} {k : Nat} (hk : c.houses.length ≤ k) : outTo c h row k = outRow c h row := by
  unfold outTo outRow
  rw [List.take_of_length_le (by rw [List.length_zip]; omega)]
theorem outTo_len (c : Chn) (h : Int) (row : List Int) (k : Nat) : (outTo c h row k).length ≤ k := by
  unfold outTo
  rw [List.length_map]
  refine Nat.le_trans (List.length_filter_le _ _) ?_
  rw [List.length_take]
  omega
end Go.Proofs.YtafdbgielmlihaaDoor
/- The reference's Hands, part five: the walk of a house's row. -/
namespace Go.Proofs.YtafdbgielmlihaaDoor
open Go.RowKit Go.Shelf Go.Lib
set_option maxRecDepth 100000
set_option linter.unusedSimpArgs false

theorem Sl.below {α : Type} {enc : α → List Value} {sz B : Nat} {V W : World} {a : Option Addr} {n c : Nat} {l : List α} (h : Sl enc sz V (.slice a n c) l) (k : Below B V W) (hx : 0 < l.length → ∀ b o, a = some ⟨b, o, none⟩ → b < B) : Sl enc sz W (.slice a n c) l := by
  obtain ⟨a', c', hv, hl, hc, hcell⟩ := h
  injection hv with e1 e2 e3
  subst e1 e2 e3
  refine ⟨_, _, rfl, hl, hc, fun h0 => ?_⟩
  obtain ⟨b, off, hA, hb, hcell⟩ := hcell h0
  refine ⟨b, off, hA, Nat.lt_of_lt_of_le hb k.size, fun i x hi j u hu => ?_⟩
  exact (World.cell?_of_block (a := ⟨b, _, none⟩) (k.block b (hx h0 b off hA))).trans (hcell i x hi j u hu)
end Go.Proofs.YtafdbgielmlihaaDoor
/- The reference's Hands, part seven: what the loop over the houses keeps. -/
namespace Go.Proofs.YtafdbgielmlihaaDoor
open Go.RowKit Go.Shelf Go.Lib
set_option maxRecDepth 100000
set_option linter.unusedSimpArgs false

theorem own_same {α : Type} {enc : α → List Value} {e : TypeId} {sz base : Nat} {W W' : World} {v : Value} {l : List α} (h : Own enc e sz W base v l) (hs : ∀ g, v.ownBlock = some g → W'.heap[g]? = W.heap[g]?) : Own enc e sz W' base v l := by
  refine ⟨h.1, ?_⟩
  rcases h.2 with h2 | ⟨g, cap, cur, e1, hb, hg, h5⟩
  · exact .inl h2
  · exact .inr ⟨g, cap, cur, e1, hb, (hs g (by rw [e1]; rfl)).trans hg, h5⟩
theorem own_rng {α : Type} {enc : α → List Value} {e : TypeId} {sz base : Nat} {W : World} {v : Value} {l : List α} (h : Own enc e sz W base v l) {g : Nat} (hg : v.ownBlock = some g) : base ≤ g ∧ g < W.heap.size := World.ownsRow.lt h g hg
theorem TwoG.far {w A B : World} {g1 g2 : Nat} (h : w.grownBy A (some g1)) (k : TwoG g1 g2 A B) (hg : w.heap.size ≤ g2) : w.grownBy B (some g1) :=
  ⟨k.os.trans h.os, k.tape.trans h.tape, k.output.trans h.output, Nat.le_trans h.size k.size, fun i hi hne => (k.block i (Nat.lt_of_lt_of_le hi h.size) (fun e => hne (by rw [e])) (by omega)).trans (h.block i hi hne)⟩
theorem RowX.at_ {w w' : World} {g : Nat} {m : List Int} (h : RowX w g m) (e : w'.heap[g]? = w.heap[g]?) : RowX w' g m := by
  obtain ⟨cur, h, h1⟩ := h
  exact ⟨cur, e.trans h, h1⟩
theorem handsTo_succ {c : Chn} {l gets : List Int} {k : Nat} {h g : Int} (hh : c.houses[k]? = some h) (hg : gets[k]? = some g) :
    handsTo c l gets (k + 1) = ((handRow c h (-g).toNat ((handsTo c l gets k).1, List.replicate c.houses.length 0)).1, (handsTo c l gets k).2 ++ outRow c h (handRow c h (-g).toNat ((handsTo c l gets k).1, List.replicate c.houses.length 0)).2) := by
  rw [handsTo]
  simp only [hh, hg]
theorem outRow_len (c : Chn) (h : Int) (row : List Int) : (outRow c h row).length ≤ c.houses.length := by
  unfold outRow
  rw [List.length_map]
  refine Nat.le_trans (List.length_filter_le _ _) ?_
  rw [List.length_zip]
  omega
theorem rep_zero (n : Nat) : ∀ y ∈ List.replicate n (0 : Int), 0 ≤ y ∧ y ≤ 0 := fun y hy => by have := List.eq_of_mem_replicate hy; omega
theorem handsTo_ok {c : Chn} {l gets : List Int} (hR : Right c) (hm : Mvs c l) (hgl : gets.length = c.houses.length) : ∀ k, k ≤ c.houses.length → Mvs c (handsTo c l gets k).1 ∧ (handsTo c l gets k).2.length ≤ 6 * k
  | 0, _ => ⟨hm, Nat.le_refl _⟩
  | k + 1, hk => by
    obtain ⟨h1, h2⟩ := handsTo_ok hR hm hgl k (by omega)
    have hh := List.getElem?_eq_getElem (l := c.houses) (i := k) (by omega)
    rw [handsTo_succ hh (List.getElem?_eq_getElem (by omega))]
    refine ⟨(handRow_ok hR (List.mem_of_getElem? hh) h1 (B := 0) (row := List.replicate c.houses.length 0) (by simp) (rep_zero _) _).1, ?_⟩
    dsimp only
    rw [List.length_append]
    have := outRow_len c (c.houses[k]'(by omega)) (handRow c (c.houses[k]'(by omega)) (-gets[k]'(by omega)).toNat ((handsTo c l gets k).1, List.replicate c.houses.length 0)).2
    have := hR.h6
    omega
theorem gets_len (c : Chn) (l : List Int) : (getsL c l).length = c.houses.length := by simp [getsL]
theorem gets_bd {c : Chn} {l : List Int} (hm : Mvs c l) (h10 : c.sales.length ≤ 10) : ∀ g ∈ getsL c l, -100 ≤ g ∧ g ≤ 100 := by
  intro g hg
  unfold getsL at hg
  obtain ⟨v, -, rfl⟩ := List.mem_map.1 hg
  have h1 := net_bd (B := 9) v (by decide) (salsOf c) l (fun y hy => by have := hm.b y hy; omega)
  have h2 := hm.l
  omega
theorem Sl.blk {α : Type} {enc : α → List Value} {sz : Nat} {w : World} {a : Option Addr} {n c : Nat} {l : List α} (h : Sl enc sz w (.slice a n c) l) (h0 : 0 < l.length) : ∀ b o, a = some ⟨b, o, none⟩ → b < w.heap.size := by
  obtain ⟨a', c', hv, hl, hc, hcell⟩ := h
  injection hv with e1 e2 e3
  subst e1
  obtain ⟨b, off, hA, hb, -⟩ := hcell h0
  intro b' o' e
  rw [hA] at e
  injection e with e
  injection e with e
  omega
end Go.Proofs.YtafdbgielmlihaaDoor
/- Range: the reference's. -/
namespace Go.Proofs.YtafdbgielmlihaaDoor
open Go.RowKit Go.Shelf Go.Lib
set_option maxRecDepth 100000
set_option linter.unusedSimpArgs false

def rangeE (c : Chn) (x : Int) : Int := if checkP c then (if 0 ≤ saleI c x then 0 else 61) else 60
/-- How many bales move by a sale. -/
def RangeOf (c : Chn) (x lo hi : Int) : Prop := (rangeE c x = 0 → IsRange c 1 (saleI c x).toNat lo ∧ IsRange c (-1) (saleI c x).toNat hi) ∧ (rangeE c x ≠ 0 → lo = 0 ∧ hi = 0)
/-- A span, and an error. -/
def SpanE (lo hi E : Int) (w : World) (e : Ending) (w' : World) : Prop := e = .returned (.tuple #[.agg #[.int .i64 lo, .int .i64 hi], .int .i64 E]) ∧ Ext w w'
theorem ret_span {fn : Func} (hf : fn.results = #[.cell 4 48, .tmp 5]) {R : Ending → World → Prop} {a : Act} {V : World} {g : Nat} {x0 x1 y0 y1 : Value} {E : Int} (hB : Blk V g 48 #[x0, x1]) (h4 : a.tmps.getD 4 undef = .pointer (some ⟨g, 0, none⟩)) (h5 : a.tmps.getD 5 undef = .int .i64 E) (hd : a.defers = [])
    (hR : ∀ W, V.grownBy W (some g) → R (.returned (.tuple #[.agg #[y0, y1], .int .i64 E])) W) : bodyPost Tryd.prog fn R .ret a ((V.setCell ⟨g, 0, none⟩ y0).setCell ⟨g, 1, none⟩ y1) := by
  have H := (hB.set_ 0 y0).set_ 1 y1
  have H2 : Blk ((V.setCell ⟨g, 0, none⟩ y0).setCell ⟨g, 1, none⟩ y1) g 48 #[y0, y1] := by simpa using H
  have G : V.grownBy ((V.setCell ⟨g, 0, none⟩ y0).setCell ⟨g, 1, none⟩ y1) (some g) := grown_set (grown_set (World.grownBy.refl _ _) (p := ⟨g, 0, none⟩) (.inl rfl) y0) (p := ⟨g, 1, none⟩) (.inl rfl) y1
  generalize (V.setCell ⟨g, 0, none⟩ y0).setCell ⟨g, 1, none⟩ y1 = W at H2 G ⊢
  obtain ⟨e0, e1, -, -⟩ := H2.c2
  refine bodyPost_ret (v := .tuple #[.agg #[y0, y1], .int .i64 E]) ?_ hd (hR W G)
  rw [results_cell_tmp hf, h4, h5]
  go_simp
/-- A list in new memory whose a-th number is known. -/
def HasA (B a : Nat) (x : Int) (v : Value) (W : World) : Prop := ∃ gm n cm, v = .slice (some ⟨gm, 0, none⟩) n cm ∧ a < n ∧ B ≤ gm ∧ gm < W.heap.size ∧ W.cell? ⟨gm, a, none⟩ = some (.int .i64 x)
theorem HasA.grown {B a g : Nat} {x : Int} {v : Value} {W W' : World} (h : HasA B a x v W) (k : W.grownBy W' (some g)) (hg : g < B) : HasA B a x v W' := by
  obtain ⟨gm, n, cm, h1, h2, h3, h4, h5⟩ := h
  exact ⟨gm, n, cm, h1, h2, h3, Nat.lt_of_lt_of_le h4 k.size, (World.cell?_of_block (a := ⟨gm, a, none⟩) (k.block gm h4 (by intro e; injection e with e; omega))).trans h5⟩
def PtrA (B a : Nat) (x : Int) (v : Value) (W : World) : Prop := ∃ gm, v = .pointer (some ⟨gm, a, none⟩) ∧ B ≤ gm ∧ gm < W.heap.size ∧ W.cell? ⟨gm, a, none⟩ = some (.int .i64 x)
theorem PtrA.grown {B a g : Nat} {x : Int} {v : Value} {W W' : World} (h : PtrA B a x v W) (k : W.grownBy W' (some g)) (hg : g < B) : PtrA B a x v W' := by
  obtain ⟨gm, h1, h3, h4, h5⟩ := h
  exact ⟨gm, h1, h3, Nat.lt_of_lt_of_le h4 k.size, (World.cell?_of_block (a := ⟨gm, a, none⟩) (k.block gm h4 (by intro e; injection e with e; omega))).trans h5⟩
theorem HasA.of {B a : Nat} {x : Int} {v : Value} {m : List Int} {W : World} (h : OwnM B v m W) (ha : a < m.length) (hx : m[a]?.getD 0 = x) : HasA B a x v W := by
  obtain ⟨A, cm, gm, rfl, h1, h2, h3⟩ := h
  obtain ⟨rfl, h4, h5⟩ := h3 (by omega)
  refine ⟨gm, m.length, cm, rfl, ha, h4, h5.lt, ?_⟩
  rw [List.getElem?_eq_getElem ha] at hx
  exact h5.cell (by rw [List.getElem?_eq_getElem ha]; exact congrArg some hx)
theorem OwnM.mono {B B' : Nat} {v : Value} {l : List Int} {W : World} (h : OwnM B v l W) (hb : B' ≤ B) : OwnM B' v l W := by
  obtain ⟨A, cm, gm, h1, h2, h3, h4⟩ := h
  exact ⟨A, cm, gm, h1, h2, h3, fun h0 => ⟨(h4 h0).1, Nat.le_trans hb (h4 h0).2.1, (h4 h0).2.2⟩⟩
end Go.Proofs.YtafdbgielmlihaaDoor
/- Proof: the program's. -/
namespace Go.Proofs.YtafdbgielmlihaaDoor
open Go.RowKit Go.Shelf Go.Lib
set_option maxRecDepth 100000
set_option linter.unusedSimpArgs false

theorem equal_any (l l' : List Int) (v v' : Value) (w : World) (h : SlI w v l) (h' : SlI w v' l') :
    Calls Tryd.prog 82 #[v, v'] w fun e w' => e = .returned (.bool (decide (l = l'))) ∧ Ext w w' := by
  have HA := Lib.hid h; have HB := Lib.hid h'
  obtain ⟨A, n, cp, rfl, hn, hlc, hcm⟩ := h.form
  obtain ⟨A2, n2, cp2, rfl, hn2, hlc2, hcm2⟩ := h'.form
  clear h h'
  go_enter Tryd.func82, Tryd.ntmps82
  by_cases hnn : n2 = n
  · subst hnn
    go_wp2
    refine wp_loop_ghost_k (fun g A' W => ∃ (k : Nat), k ≤ n2 ∧ n2 - k ≤ g ∧ Fr 26 [(0, .slice A n2 cp), (1, .slice A2 n2 cp2), (12, .int .i64 (n2 : Int)), (13, .int .i64 (k : Int))] [] A' ∧ Ext w W ∧ l.take k = l'.take k) n2 ?_ ?_
    · exact ⟨0, by omega, by omega, ⟨rfl, rfl, by simp [Act.eval]⟩, Ext.refl _, by simp⟩
    · rintro g A' U ⟨k, hk, hg, hF, hE, ht⟩ J K' hJ hK'
      have HJ := Lib.hid hJ; have EU := Lib.hid hE; have HT := Lib.hid ht
      obtain ⟨ρ, rfl, hρ⟩ := hF.open_
      simp only [List.forall_mem_cons] at hρ
      obtain ⟨r0, r1, r12, r13, -⟩ := hρ
      simp only [lst, Nat.reduceAdd, r0, r1, r12, r13]
      clear r0 r1 r12 r13 hF hE ht hJ
      by_cases hlt : k < n2
      · have hltz : (k : Int) < (n2 : Int) := by omega
        obtain ⟨b, off, x, rfl, hx, -, hcell⟩ := HA.out.at_ hlt
        obtain ⟨b', off', y, rfl, hy, -, hcell'⟩ := HB.out.at_ hlt
        have m0 := fun W (h : Ext U W) => SlI.cell hcell (EU.out.trans h)
        have m1 := fun W (h : Ext U W) => SlI.cell hcell' (EU.out.trans h)
        have HX := Lib.hid hx; have HY := Lib.hid hy
        clear hx hy hcell hcell'
        go_wp2
        by_cases hxy : x = y
        · subst hxy
          refine wp_region_tame (fun W => Ext U W) (fun W W' => Ext W W') (by kernel_rfl) 26 rfl (by decide +kernel) (Ext.refl _).drew ?_
          repeat (apply tame_q rfl; (intro ρ W hC hr hD; (obtain ⟨hrc, hrg, hrf, hrs⟩ := hr); (simp [go_sem] at hD); go_simp; first | exact ⟨⟨hC, Ext.refl _⟩, rfl⟩ | exact ⟨⟨hC, RS.refl _⟩, rfl⟩ | exact rfl); simp only [List.nil_append, List.cons_append])
          refine tame_end 26 rfl rfl (fun ρ W hC hr hF => ?_)
          obtain ⟨hrc, hrg, hrf, hrs⟩ := hr
          simp [go_sem] at hF
          apply frame_to
          · go_simp
            exact rfl
          clear hF hrs hrc hrg hrf
          have HC := Lib.hid hC
          clear hC m0 m1
          go_wp2
          exact Handed.intro (n2 - (k + 1)) (by omega) (HJ.out _ _ _ ⟨k + 1, by omega, Nat.le_refl _, ⟨rfl, rfl, by simp [Act.eval]⟩, EU.out.trans HC.out, by rw [List.take_add_one, List.take_add_one, HX.out, HY.out, HT.out]⟩)
        · have h1 : (x == y) = false := by simpa using hxy
          have HN := Lib.hid (show decide (l = l') = false from decide_eq_false fun e => hxy (by
            have h1 := HX.out; have h2 := HY.out
            rw [e, h2] at h1
            injection h1 with h1
            exact h1.symm))
          clear hxy
          refine wp_region_tame (fun W => Ext U W) (fun W W' => Ext W W') (by kernel_rfl) 26 rfl (by decide +kernel) (Ext.refl _).drew ?_
          repeat (apply tame_q rfl; (intro ρ W hC hr hD; (obtain ⟨hrc, hrg, hrf, hrs⟩ := hr); (simp [go_sem] at hD); go_simp; first | exact ⟨⟨hC, Ext.refl _⟩, rfl⟩ | exact ⟨⟨hC, RS.refl _⟩, rfl⟩ | exact rfl); simp only [List.nil_append, List.cons_append])
          refine tame_end 26 rfl rfl (fun ρ W hC hr hF => ?_)
          obtain ⟨hrc, hrg, hrf, hrs⟩ := hr
          simp [go_sem] at hF
          apply frame_to
          · go_simp
            exact rfl
          clear hF hrs hrc hrg hrf
          have HC := Lib.hid hC
          clear hC m0 m1
          go_wp2
          go_ret
          exact ⟨ret_bool HN.out.symm, EU.out.trans HC.out⟩
      · have HE := Lib.hid (show k = n2 by omega)
        go_wp2
        go_ret
        refine ⟨ret_bool (decide_eq_true ?_).symm, EU.out⟩
        have := HT.out
        rw [List.take_of_length_le (by have := HE.out; have := hn.out; omega), List.take_of_length_le (by have := HE.out; have := hn2.out; omega)] at this
        exact this
  · have hnz : ((n : Int) == (n2 : Int)) = false := by simpa using fun e : (n : Int) = n2 => hnn (by omega)
    have HN := Lib.hid (show decide (l = l') = false from decide_eq_false fun e => hnn (by have := hn.out; have := hn2.out; rw [e] at hn; have := hn.out; omega))
    go_wp2
    go_ret
    exact ⟨ret_bool HN.out.symm, Ext.refl _⟩
theorem set_same {o : List Int} {b : Nat} {y : Int} (h : o[b]? = some y) : o.set b y = o := by
  obtain ⟨h1, h2⟩ := List.getElem?_eq_some_iff.1 h
  rw [← h2]
  exact List.set_getElem_self h1
theorem prU_on {o : List Int} {s b : Nat} {x y : Int} (hs : o[s]? = some x) (hb : o[b]? = some y) : prU s b true o = o.set b (max y (x + 1)) := by
  unfold prU
  rw [hs, hb]
  simp only [Option.getD, Bool.true_and]
  by_cases h : y ≤ x
  · rw [if_pos (decide_eq_true h), show max y (x + 1) = x + 1 by omega]
  · rw [if_neg (by simpa using h), show max y (x + 1) = y by omega]
    exact (set_same hb).symm
theorem prU_off {o : List Int} {s b : Nat} : prU s b false o = o := by simp [prU]
theorem prD_on {o : List Int} {s b : Nat} {x y : Int} (hs : o[s]? = some x) (hb : o[b]? = some y) : prD s b true o = o.set s (max x (y - 1)) := by
  unfold prD
  rw [hs, hb]
  simp only [Option.getD, Bool.true_and]
  by_cases h : x + 1 < y
  · rw [if_pos (decide_eq_true h), show max x (y - 1) = y - 1 by omega]
  · rw [if_neg (by simpa using h), show max x (y - 1) = x by omega]
    exact (set_same hs).symm
theorem prD_off {o : List Int} {s b : Nat} : prD s b false o = o := by simp [prD]
end Go.Proofs.YtafdbgielmlihaaDoor
/- Proof: the program's, whole. -/
namespace Go.Proofs.YtafdbgielmlihaaDoor
open Go.RowKit Go.Shelf Go.Lib
set_option maxRecDepth 100000
set_option linter.unusedSimpArgs false

/-- The numbers that prove a closing; none, where a chain is not valid. -/
def ProofOf (c : Chn) (l P : List Int) : Prop := (checkP c = true → IsPr c l P) ∧ (checkP c = false → P = [])
theorem pr_small {c : Chn} {l π : List Int} (hT : Top c l π) (h6 : ∀ v : Nat, 0 ≤ π[v]?.getD 0 ∧ π[v]?.getD 0 ≤ 6) (k i v : Nat) : 0 ≤ (prTo c l (prIt c l k) i)[v]?.getD 0 ∧ (prTo c l (prIt c l k) i)[v]?.getD 0 ≤ 6 := by
  have h1 := prTo_top hT (prIt_top hT (fun v => (h6 v).1) k) i v
  have h2 : ∀ (k v : Nat), 0 ≤ (prIt c l k)[v]?.getD 0 := by
    intro k
    induction k with
    | zero =>
      intro v
      unfold prIt
      rw [List.getElem?_replicate]
      split <;> simp
    | succ k ih =>
      intro v
      exact Int.le_trans (ih v) (prTo_up c l (prIt c l k) _ v)
  have h3 := prTo_up c l (prIt c l k) i v
  have h4 := h2 k v
  have h5 := h6 v
  omega
set_option maxHeartbeats 8000000 in
theorem proof_any (c : Chn) (l P : List Int) (hv sv : Value) (w : World) (hcl : CloseOf c l) (hpr : ProofOf c l P) (hT : Tab w) (hh : SlI w hv c.houses) (hs : SlL w sv c.sales) (hl : c.sales.length ≤ 1000) :
    Calls Tryd.prog 33 #[valC hv sv] w (ListE P (errB (checkP c) 60) w) := by
  have HT := Lib.hid hT; have HH := Lib.hid hh; have HS := Lib.hid hs; have HL := Lib.hid hl
  obtain ⟨A, n, cp, rfl, hn, hlc, hcm⟩ := hh.form
  obtain ⟨A2, n2, cp2, rfl, hn2, hlc2, hcm2⟩ := hs.form
  have B0 := Lib.hid (show Blk (w.alloc (.cells #[.slice A n cp, .slice A2 n2 cp2] 25)) w.heap.size 25 #[.slice A n cp, .slice A2 n2 cp2] from Blk.new _ _ _)
  clear hh hs hT hl
  cases hc : checkP c with
  | false =>
    have HO := Lib.hid (hpr.2 hc)
    have HCK := Lib.hid hc
    clear hcl hpr hc
    go_enter Tryd.func33, Tryd.ntmps33
    go_wp2_with fail
    refine (opened_no c _ _ _ (HT.out.ext (Ext.al _ _)) (HH.out.ext (Ext.al _ _)) (HS.out.ext (Ext.al _ _)) HL.out HCK.out).mono ?_
    rintro e w1 ⟨rfl, hE⟩
    have E1 := Lib.hid ((Ext.al w _).trans hE); clear hE
    go_wp2
    go_ret2
    exact ⟨⟨.slice none 0 0, by rfl, by rw [HO.out]; exact Sl.nil _⟩, E1.out⟩
  | true =>
    have HPR := Lib.hid (hpr.1 hc)
    have HO := Lib.hid (hcl.1 hc)
    have HCLO := Lib.hid hcl
    have HCK := Lib.hid hc
    have HR := Lib.hid (check_right hc).1
    have HS10 := Lib.hid (check_right hc).2
    obtain ⟨π, hTop, h6⟩ := top_small HR.out HS10.out HO.out
    have HTOP := Lib.hid hTop; have H06 := Lib.hid h6
    clear hcl hc hpr hTop h6
    go_enter Tryd.func33, Tryd.ntmps33
    go_wp2_with fail
    refine (opened_yes c l _ _ _ HCLO.out (HT.out.ext (Ext.al _ _)) (HH.out.ext (Ext.al _ _)) (HS.out.ext (Ext.al _ _)) HCK.out).mono ?_
    rintro e w3 ⟨mb, gm, hv', sv', cv', rfl, hE, h1, h2, h3, h4, h5, h6'⟩
    have E3 := Lib.hid ((Ext.al w _).trans hE); have B3 := Lib.hid (B0.out.ext hE)
    have hz3 := hE.size
    rw [World.size_alloc] at hz3
    obtain ⟨N2, hN2⟩ : ∃ N2, c.sales.length = N2 := ⟨_, rfl⟩
    rw [hN2] at h3
    have HLN := Lib.hid (close_len HO.out)
    have hnN : n2 = N2 := by have := hn2.out; omega
    subst hnN
    have HN2 := Lib.hid hN2
    have hmlt := h3.lt; have hglt := h4.lt
    obtain ⟨A3, n3, cp3, rfl, -, -, -⟩ := h5.form
    have BM := Lib.hid h3; have RM := Lib.hid h4; have HH' := Lib.hid h5
    have HAB := Lib.hid (fun h => HH'.out.lt h)
    have hn6 : n ≤ 6 := by have := HR.out.h6; have := hn.out; omega
    have hn10 : n2 ≤ 10 := by have := HS10.out; omega
    have hmk := fun w => run_makeI (n := n) (by omega) w
    clear hE h3 h4 h5 h6' hN2
    have HSB := Lib.hid (fun h => HS.out.lt (w := w) h)
    obtain ⟨w4, hw4⟩ : ∃ w4, w4 = w3.alloc (.cells (intsA (List.replicate n 0)) 3) := ⟨_, rfl⟩
    have E4 := Lib.hid (show Ext w3 w4 from hw4 ▸ Ext.al _ _)
    have R4 := Lib.hid (show RowI w4 w3.heap.size (List.replicate n 0) from hw4 ▸ Blk.new _ _ _)
    have hz4 : w4.heap.size = w3.heap.size + 1 := by rw [hw4]; simp
    have hbw := B3.out.lt
    have HZ := Lib.hid (show prIt c l 0 = List.replicate n 0 by rw [prIt, hn.out])
    have x0 := B3.out.c2
    go_wp2
    simp only [← hw4]
    clear x0 hmk hw4
    refine wp_loop_ghost_k (fun g A' W => ∃ (k : Nat) (vw : Value) (lw : List Int), (k = 0 ∧ lw = [] ∧ gap (prIt c l 0) π + 1 ≤ g ∨ ∃ j, k = j + 1 ∧ lw = prIt c l j ∧ gap (prIt c l j) π ≤ g) ∧
      Fr 90 [(1, .pointer (some ⟨w.heap.size, 0, none⟩)), (4, .pointer (some ⟨mb, 0, none⟩)), (6, .slice (some ⟨w3.heap.size, 0, none⟩) n n), (7, vw)] [] A' ∧
      w4.grownBy W (some w3.heap.size) ∧ RowI W w3.heap.size (prIt c l k) ∧ Own encI 3 1 W w4.heap.size vw lw) (gap (prIt c l 0) π + 1) ?_ ?_
    · exact ⟨0, _, _, .inl ⟨rfl, rfl, Nat.le_refl _⟩, ⟨rfl, rfl, by simp [Act.eval]⟩, World.grownBy.refl _ _, by rw [HZ.out]; exact R4.out, Own.nil _ _⟩
    · rintro g A' U ⟨k, vw, lw, hk, hF, hG, hRw, hOw⟩ J K' hJ hK
      have HJ := Lib.hid hJ; have HG := Lib.hid hG; have RW := Lib.hid hRw; have OW := Lib.hid hOw; have HK := Lib.hid hk
      obtain ⟨ρ, rfl, hρ⟩ := hF.open_
      simp only [List.forall_mem_cons] at hρ
      obtain ⟨r1, r4, r6, r7, -⟩ := hρ
      simp only [lst, Nat.reduceAdd, r1, r4, r6, r7]
      clear r1 r4 r6 r7 hF hG hRw hOw hJ hk
      have HPL := Lib.hid (show (prIt c l k).length = n by rw [prIt_len]; exact hn.out.symm)
      have HSR := Lib.hid (show SlI U (.slice (some ⟨w3.heap.size, 0, none⟩) n n) (prIt c l k) from by
        have := RW.out.sl (by rw [HPL.out]; unfold maxLen; omega)
        rwa [HPL.out] at this)
      go_wp2_with fail
      refine (equal_any lw (prIt c l k) _ _ U (OW.out.sl (fun _ => rfl)) HSR.out).mono ?_
      rintro e U1 ⟨rfl, hE⟩
      have RW1 := Lib.hid (RW.out.ext hE); have OW1 := Lib.hid (OW.out.ext hE); have HG1 := Lib.hid (grown_ext HG.out hE)
      clear hE
      cases hq : decide (lw = prIt c l k) with
      | true =>
        have HQ := Lib.hid (of_decide_eq_true hq)
        clear hq
        go_wp2
        go_ret2
        have hP : IsPr c l (prIt c l k) := by
          rcases HK.out with ⟨rfl, h1, -⟩ | ⟨j, rfl, h1, -⟩
          · refine ⟨0, rfl, ?_⟩
            have h0 : (prIt c l 0) = [] := by rw [← HQ.out]; exact h1
            have h2 := prTo_len c l (prIt c l 0) c.sales.length
            rw [h0] at h2 ⊢
            exact List.eq_nil_of_length_eq_zero h2
          · have h0 : prIt c l j = prIt c l (j + 1) := by rw [← h1]; exact HQ.out
            exact ⟨j, h0, by rw [← h0]; exact h0.symm⟩
        refine ⟨⟨.slice (some ⟨w3.heap.size, 0, none⟩) n n, by rfl, ?_⟩, ext_grown (E3.out.trans E4.out) HG1.out (by omega)⟩
        rw [pr_one HPR.out hP]
        have := RW1.out.sl (by rw [HPL.out]; unfold maxLen; omega)
        rwa [HPL.out] at this
      | false =>
        have HQ := Lib.hid (of_decide_eq_false hq)
        clear hq OW OW1
        have HSR1 := Lib.hid (show SlI U1 (.slice (some ⟨w3.heap.size, 0, none⟩) n n) (prIt c l k) from by
          have := RW1.out.sl (by rw [HPL.out]; unfold maxLen; omega)
          rwa [HPL.out] at this)
        go_wp2_with fail
        refine (cloneI_any _ (prIt c l k) U1 HSR1.out (by rw [HPL.out]; omega)).mono ?_
        rintro e U2 ⟨⟨vw2, rfl, ho⟩, hE⟩
        have RW2 := Lib.hid (RW1.out.ext hE); have HG2 := Lib.hid (grown_ext HG1.out hE)
        have hzU1 := HG1.out.size
        have OW2 := Lib.hid (show Own encI 3 1 U2 w4.heap.size vw2 (prIt c l k) from ho.mono hzU1)
        have B1U := Lib.hid ((B3.out.ext E4.out).grown HG2.out (by intro e; injection e with e; omega))
        clear hE ho RW RW1 HSR HSR1 HG HG1
        have x0 := B1U.out.c2
        go_wp2
        clear x0 B1U
        obtain ⟨o, ho⟩ : ∃ o, prIt c l k = o := ⟨_, rfl⟩
        have HOI := Lib.hid ho
        have HSM := Lib.hid (show ∀ i v : Nat, 0 ≤ (prTo c l o i)[v]?.getD 0 ∧ (prTo c l o i)[v]?.getD 0 ≤ 6 from by rw [← ho]; exact pr_small HTOP.out H06.out k)
        have HOL := Lib.hid (show o.length = n by rw [← ho]; exact HPL.out)
        rw [ho] at RW2 OW2
        clear ho
        refine wp_loop_ghost_k (fun g A' W => ∃ (i : Nat), i ≤ n2 ∧ n2 - i ≤ g ∧ Fr 90 [(1, .pointer (some ⟨w.heap.size, 0, none⟩)), (4, .pointer (some ⟨mb, 0, none⟩)), (6, .slice (some ⟨w3.heap.size, 0, none⟩) n n), (7, vw2), (31, .slice A2 n2 cp2), (32, .int .i64 (n2 : Int)), (33, .int .i64 (i : Int))] [] A' ∧
          w4.grownBy W (some w3.heap.size) ∧ RowI W w3.heap.size (prTo c l o i) ∧ Own encI 3 1 W w4.heap.size vw2 o) n2 ?_ ?_
        · exact ⟨0, by omega, by omega, ⟨rfl, rfl, by simp [Act.eval]⟩, HG2.out, RW2.out, OW2.out⟩
        · rintro g2 A2' U3 ⟨i, hi, hg2, hF, hG, hRw, hOw⟩ J2 K2 hJ2 hK2
          have HJ2 := Lib.hid hJ2; have HG := Lib.hid hG; have RW := Lib.hid hRw; have OW := Lib.hid hOw
          have hzU3 := hG.size
          obtain ⟨ρ, rfl, hρ⟩ := hF.open_
          simp only [List.forall_mem_cons] at hρ
          obtain ⟨r1, r4, r6, r7, r31, r32, r33, -⟩ := hρ
          simp only [lst, Nat.reduceAdd, r1, r4, r6, r7, r31, r32, r33]
          clear r1 r4 r6 r7 r31 r32 r33 hF hG hRw hOw hJ2 RW2 OW2 HG2
          by_cases hlt : i < n2
          · have hltz : (i : Int) < (n2 : Int) := by omega
            have HSW := Lib.hid (((HS.out.ext E3.out).ext E4.out).grown HG.out fun h b o e => by have := HSB.out h b o e; omega)
            obtain ⟨b, off, x, rfl, hx, -, hcell⟩ := HSW.out.at_ hlt
            obtain ⟨c0, c1, c2, c3, c4⟩ := SlL.cells hcell (Ext.refl _)
            obtain ⟨y, hy⟩ : ∃ y, l[i]? = some y := ⟨_, List.getElem?_eq_getElem (by have := HLN.out; have := HN2.out; omega)⟩
            obtain ⟨s, bb, hsi, hbi, hsl, hbl, hne⟩ := sale_at HR.out hx
            have HST := Lib.hid (prTo_succ (o := o) hx hy)
            have hlen : (prTo c l o i).length = n := by rw [prTo_len]; exact HOL.out
            obtain ⟨x0, hx0⟩ : ∃ x0, (prTo c l o i)[s]? = some x0 := ⟨_, List.getElem?_eq_getElem (by have := hn.out; omega)⟩
            obtain ⟨y0, hy0⟩ : ∃ y0, (prTo c l o i)[bb]? = some y0 := ⟨_, List.getElem?_eq_getElem (by have := hn.out; omega)⟩
            have hx0b := HSM.out i s
            have hy0b := HSM.out i bb
            rw [hx0] at hx0b
            rw [hy0] at hy0b
            simp only [Option.getD] at hx0b hy0b
            have HX0 := Lib.hid hx0; have HY0 := Lib.hid hy0; have HSI := Lib.hid hsi; have HBI := Lib.hid hbi; have HNE := Lib.hid hne; have HY := Lib.hid hy
            have hsz : (s : Int) < (n : Int) := by have := hn.out; omega
            have hbz : (bb : Int) < (n : Int) := by have := hn.out; omega
            have hsz' : s < n := by omega
            have hbz' : bb < n := by omega
            have hkn : i < n2 := hlt
            obtain ⟨wx, hwx⟩ : ∃ wx, wx = U3.alloc (.cells #[.int .i64 x.number, .int .i64 x.seller, .int .i64 x.buyer, .int .i64 x.bales, .int .i64 x.price] 68) := ⟨_, rfl⟩
            have BX := Lib.hid (show Blk wx U3.heap.size 68 #[.int .i64 x.number, .int .i64 x.seller, .int .i64 x.buyer, .int .i64 x.bales, .int .i64 x.price] from hwx ▸ Blk.new _ _ _)
            have GX := Lib.hid (show w4.grownBy wx (some w3.heap.size) from hwx ▸ grown_ext HG.out (Ext.al _ _))
            have RX := Lib.hid (show RowI wx w3.heap.size (prTo c l o i) from hwx ▸ RW.out.alloc _)
            have OX := Lib.hid (show Own encI 3 1 wx w4.heap.size vw2 o from hwx ▸ OW.out.alloc _)
            have BMX := Lib.hid ((BM.out.ext E4.out).grown GX.out (by intro e; injection e with e; omega))
            have RMX := Lib.hid (show RowI wx gm l from Blk.grown (RM.out.ext E4.out) GX.out (by intro e; injection e with e; omega))
            have HHX := Lib.hid ((HH'.out.ext E4.out).grown GX.out fun h b o e => by have := HAB.out h b o e; omega)
            have hzx : wx.heap.size = U3.heap.size + 1 := by rw [hwx]; simp
            have m1 := fun W (h : Ext wx W) => (BX.out.ext h).c5.2.1
            have m2 := fun W (h : Ext wx W) => (BX.out.ext h).c5.2.2.1
            clear hx hy hcell hsi hbi hne hx0 hy0
            go_wp2
            simp only [← hwx]
            clear hwx c0 c1 c2 c3 c4
            refine wp_region_tame (fun W => Ext wx W) (fun W W' => Ext W W') (by kernel_rfl) 90 rfl (by decide +kernel) (Ext.refl _).drew ?_
            repeat (apply tame_q rfl; (intro ρ W hC hr hD; (obtain ⟨hrc, hrg, hrf, hrs⟩ := hr); (simp [go_sem] at hD); go_simp; first | exact ⟨⟨hC, Ext.refl _⟩, rfl⟩ | exact ⟨⟨hC, RS.refl _⟩, rfl⟩ | exact rfl); simp only [List.nil_append, List.cons_append])
            apply tame_q rfl
            · intro ρ W hC hr hD
              obtain ⟨hrc, hrg, hrf, hrs⟩ := hr
              simp [go_sem] at hD
              go_simp
              refine (mhouse_any c x.seller s mb _ _ _ _ W (BMX.out.ext hC) (HHX.out.ext hC) HSI.out).mono ?_
              rintro e w' ⟨rfl, hE⟩
              exact ⟨_, rfl, ⟨hC.trans hE, hE⟩, rfl⟩
            simp only [List.nil_append, List.cons_append]
            repeat (apply tame_q rfl; (intro ρ W hC hr hD; (obtain ⟨hrc, hrg, hrf, hrs⟩ := hr); (simp [go_sem] at hD); go_simp; first | exact ⟨⟨hC, Ext.refl _⟩, rfl⟩ | exact ⟨⟨hC, RS.refl _⟩, rfl⟩ | exact rfl); simp only [List.nil_append, List.cons_append])
            apply tame_q rfl
            · intro ρ W hC hr hD
              obtain ⟨hrc, hrg, hrf, hrs⟩ := hr
              simp [go_sem] at hD
              go_simp
              refine (mhouse_any c x.buyer bb mb _ _ _ _ W (BMX.out.ext hC) (HHX.out.ext hC) HBI.out).mono ?_
              rintro e w' ⟨rfl, hE⟩
              exact ⟨_, rfl, ⟨hC.trans hE, hE⟩, rfl⟩
            simp only [List.nil_append, List.cons_append]
            repeat (apply tame_q rfl; (intro ρ W hC hr hD; (obtain ⟨hrc, hrg, hrf, hrs⟩ := hr); (simp [go_sem] at hD); go_simp; first | exact ⟨⟨hC, Ext.refl _⟩, rfl⟩ | exact ⟨⟨hC, RS.refl _⟩, rfl⟩ | exact rfl); simp only [List.nil_append, List.cons_append])
            refine tame_end_put rfl rfl (fun ρ V hC hr hF => ?_)
            simp [go_sem] at hF
            simp only [putF, hF, List.set_cons_succ, List.set_cons_zero]
            clear hF hr
            have HC := Lib.hid hC
            clear hC
            clear m1 m2
            have B5 := Lib.hid (BX.out.ext HC.out); have R5 := Lib.hid (RX.out.ext HC.out); have M5 := Lib.hid (BMX.out.ext HC.out); have RM5 := Lib.hid (RMX.out.ext HC.out); have G5 := Lib.hid (grown_ext GX.out HC.out); have OW5 := Lib.hid (OX.out.ext HC.out)
            have hzV := HC.out.size
            clear HC BX RX BMX RMX HHX GX OX
            have hmc := M5.out.c4
            have hyc := RM5.out.cell HY.out
            have hxb1 : IntKind.i64.wrap (x0 + 1) = x0 + 1 := by rw [IntKind.wrap_i64]; omega
            have HS0 := Lib.hid (show prTo c l o (i + 1) = prD s bb (decide (y < x.bales)) (prU s bb (decide (0 < y)) (prTo c l o i)) by
              rw [HST.out]; unfold prS; rw [HSI.out, HBI.out]; rfl)
            by_cases hyp : 0 < y
            · obtain ⟨y1, hy1⟩ : ∃ y1, max y0 (x0 + 1) = y1 := ⟨_, rfl⟩
              have HPS := Lib.hid (show prTo c l o (i + 1) = prD s bb (decide (y < x.bales)) ((prTo c l o i).set bb y1) by
                rw [HS0.out, decide_eq_true hyp, prU_on HX0.out HY0.out, hy1])
              obtain ⟨o1, ho1⟩ : ∃ o1, (prTo c l o i).set bb y1 = o1 := ⟨_, rfl⟩
              rw [ho1] at HPS
              have HX1 := Lib.hid (show o1[s]? = some x0 by rw [← ho1, List.getElem?_set, if_neg (Ne.symm HNE.out)]; exact HX0.out)
              have HY1 := Lib.hid (show o1[bb]? = some y1 by rw [← ho1, List.getElem?_set, if_pos rfl, if_pos (List.getElem?_eq_some_iff.1 HY0.out).1])
              have hw1 : IntKind.i64.wrap (y1 - 1) = y1 - 1 := by rw [IntKind.wrap_i64]; omega
              have rs := fun W (h : Ext V W) => (R5.out.ext h).cell HX0.out
              have rb := fun W (h : Ext V W) => (R5.out.ext h).cell HY0.out
              go_wp2
              clear hmc hyc
              refine wp_region_tame_cut (fun W => Ext V W) (fun W W' => Ext W W') (by kernel_rfl) 90 rfl _ rfl (by decide +kernel) (by decide +kernel) (by decide +kernel) rfl (Ext.refl _).drew ?_
              simp only [List.dropLast]
              repeat (apply tame_q rfl; (intro ρ W hC hr hD; (obtain ⟨hrc, hrg, hrf, hrs⟩ := hr); (simp [go_sem] at hD); go_simp; first | exact ⟨⟨hC, Ext.refl _⟩, rfl⟩ | exact ⟨⟨hC, RS.refl _⟩, rfl⟩ | exact rfl); simp only [List.nil_append, List.cons_append])
              refine tame_end 90 rfl rfl (fun ρ V4 hC hr hF => ?_)
              obtain ⟨hrc, hrg, hrf, hrs⟩ := hr
              simp [go_sem] at hF
              apply frame_to
              · go_simp
                exact rfl
              clear hF hrs hrc hrg hrf
              have HC := Lib.hid hC
              clear hC
              clear rs rb
              replace B5 := Lib.hid (B5.out.ext HC.out); replace R5 := Lib.hid (R5.out.ext HC.out); replace M5 := Lib.hid (M5.out.ext HC.out); replace RM5 := Lib.hid (RM5.out.ext HC.out); replace G5 := Lib.hid (grown_ext G5.out HC.out); replace OW5 := Lib.hid (OW5.out.ext HC.out)
              have hzV4 := HC.out.size
              clear HC
              obtain ⟨V5, hV5⟩ : ∃ V5, V5 = V4.setCell ⟨w3.heap.size, bb, none⟩ (.int .i64 y1) := ⟨_, rfl⟩
              have GS := Lib.hid (show V4.grownBy V5 (some w3.heap.size) from hV5 ▸ grown_set (World.grownBy.refl _ _) (p := ⟨w3.heap.size, bb, none⟩) (.inl rfl) _)
              have R5' := Lib.hid (show RowI V5 w3.heap.size o1 from hV5 ▸ ho1 ▸ R5.out.set bb y1)
              replace B5 := Lib.hid (B5.out.grown GS.out (by intro e; injection e with e; omega)); replace M5 := Lib.hid (M5.out.grown GS.out (by intro e; injection e with e; omega))
              replace RM5 := Lib.hid (show RowI V5 gm l from Blk.grown RM5.out GS.out (by intro e; injection e with e; omega)); replace G5 := Lib.hid (grown_tr G5.out GS.out)
              replace OW5 := Lib.hid (show Own encI 3 1 V5 w4.heap.size vw2 o from own_kept OW5.out GS.out (by omega))
              have rf := R5.out.frozen
              have rl := R5.out.lt
              have rc := R5.out.cell HY0.out
              simp only [hy1]
              go_wp2
              simp only [← hV5]
              clear rf rl rc hV5 R5 ho1 hy1
              have R5 := R5'
              obtain ⟨x1, hx1⟩ : ∃ x1, x1 = x0 := ⟨_, rfl⟩
              rw [← hx1] at HX1
              clear hx1 R5'
              have m3 := fun W (h : Ext V5 W) => (B5.out.ext h).c5.2.2.2.1
              have mm := fun W (h : Ext V5 W) => (M5.out.ext h).c4
              have my := fun W (h : Ext V5 W) => (RM5.out.ext h).cell HY.out
              by_cases hyx : y < x.bales
              · have HSD := Lib.hid (show prTo c l o (i + 1) = o1.set s (max x1 (y1 - 1)) by rw [HPS.out, decide_eq_true hyx]; exact prD_on HX1.out HY1.out)
                refine wp_region_tame (fun W => Ext V5 W) (fun W W' => Ext W W') (by kernel_rfl) 90 rfl (by decide +kernel) (Ext.refl _).drew ?_
                repeat (apply tame_q rfl; (intro ρ W hC hr hD; (obtain ⟨hrc, hrg, hrf, hrs⟩ := hr); (simp [go_sem] at hD); go_simp; first | exact ⟨⟨hC, Ext.refl _⟩, rfl⟩ | exact ⟨⟨hC, RS.refl _⟩, rfl⟩ | exact rfl); simp only [List.nil_append, List.cons_append])
                refine tame_end_put rfl rfl (fun ρ V6 hC hr hF => ?_)
                simp [go_sem] at hF
                simp only [putF, hF, List.set_cons_succ, List.set_cons_zero]
                clear hF hr
                have HC := Lib.hid hC
                clear hC
                clear m3 mm my
                have R6 := Lib.hid (R5.out.ext HC.out); have G6 := Lib.hid (grown_ext G5.out HC.out); have OW6 := Lib.hid (OW5.out.ext HC.out)
                clear HC
                have rs := fun W (h : Ext V6 W) => (R6.out.ext h).cell HX1.out
                have rb := fun W (h : Ext V6 W) => (R6.out.ext h).cell HY1.out
                go_wp2
                refine wp_region_tame_cut (fun W => Ext V6 W) (fun W W' => Ext W W') (by kernel_rfl) 90 rfl _ rfl (by decide +kernel) (by decide +kernel) (by decide +kernel) rfl (Ext.refl _).drew ?_
                simp only [List.dropLast]
                repeat (apply tame_q rfl; (intro ρ W hC hr hD; (obtain ⟨hrc, hrg, hrf, hrs⟩ := hr); (simp [go_sem] at hD); go_simp; first | exact ⟨⟨hC, Ext.refl _⟩, rfl⟩ | exact ⟨⟨hC, RS.refl _⟩, rfl⟩ | exact rfl); simp only [List.nil_append, List.cons_append])
                refine tame_end 90 rfl rfl (fun ρ V7 hC hr hF => ?_)
                obtain ⟨hrc, hrg, hrf, hrs⟩ := hr
                simp [go_sem] at hF
                apply frame_to
                · go_simp
                  exact rfl
                clear hF hrs hrc hrg hrf
                have HC := Lib.hid hC
                clear hC
                clear rs rb
                have R7 := Lib.hid (R6.out.ext HC.out); have G7 := Lib.hid (grown_ext G6.out HC.out); have OW7 := Lib.hid (OW6.out.ext HC.out)
                clear HC
                have rs := R7.out.cell HX1.out
                have rf := R7.out.frozen
                have rl := R7.out.lt
                go_wp2
                exact Handed.intro (n2 - (i + 1)) (by omega) (HJ2.out _ _ _ ⟨i + 1, by omega, Nat.le_refl _, ⟨rfl, rfl, by simp [Act.eval]⟩, grown_set G7.out (p := ⟨w3.heap.size, s, none⟩) (.inl rfl) _, by rw [HSD.out]; exact R7.out.set s _, own_kept (g := w3.heap.size) OW7.out (grown_set (World.grownBy.refl _ _) (p := ⟨w3.heap.size, s, none⟩) (.inl rfl) _) (by omega)⟩)
              · have HSD := Lib.hid (show prTo c l o (i + 1) = o1 by rw [HPS.out, decide_eq_false hyx]; exact prD_off)
                refine wp_region_tame (fun W => Ext V5 W) (fun W W' => Ext W W') (by kernel_rfl) 90 rfl (by decide +kernel) (Ext.refl _).drew ?_
                repeat (apply tame_q rfl; (intro ρ W hC hr hD; (obtain ⟨hrc, hrg, hrf, hrs⟩ := hr); (simp [go_sem] at hD); go_simp; first | exact ⟨⟨hC, Ext.refl _⟩, rfl⟩ | exact ⟨⟨hC, RS.refl _⟩, rfl⟩ | exact rfl); simp only [List.nil_append, List.cons_append])
                refine tame_end_put rfl rfl (fun ρ V6 hC hr hF => ?_)
                simp [go_sem] at hF
                simp only [putF, hF, List.set_cons_succ, List.set_cons_zero]
                clear hF hr
                have HC := Lib.hid hC
                clear hC
                clear m3 mm my
                have R6 := Lib.hid (R5.out.ext HC.out); have G6 := Lib.hid (grown_ext G5.out HC.out); have OW6 := Lib.hid (OW5.out.ext HC.out)
                clear HC
                go_wp2
                exact Handed.intro (n2 - (i + 1)) (by omega) (HJ2.out _ _ _ ⟨i + 1, by omega, Nat.le_refl _, ⟨rfl, rfl, by simp [Act.eval]⟩, G6.out, by rw [HSD.out]; exact R6.out, OW6.out⟩)
            · have HPS := Lib.hid (show prTo c l o (i + 1) = prD s bb (decide (y < x.bales)) (prTo c l o i) by
                rw [HS0.out, decide_eq_false hyp, prU_off])
              obtain ⟨o1, ho1⟩ : ∃ o1, prTo c l o i = o1 := ⟨_, rfl⟩
              rw [ho1] at HPS R5 HX0 HY0
              obtain ⟨x1, hx1⟩ : ∃ x1, x1 = x0 := ⟨_, rfl⟩
              obtain ⟨y1, hy1⟩ : ∃ y1, y1 = y0 := ⟨_, rfl⟩
              have hw1 : IntKind.i64.wrap (y1 - 1) = y1 - 1 := by rw [IntKind.wrap_i64]; omega
              have HX1 := Lib.hid (show o1[s]? = some x1 by rw [hx1]; exact HX0.out)
              have HY1 := Lib.hid (show o1[bb]? = some y1 by rw [hy1]; exact HY0.out)
              clear hx1 hy1 ho1
              go_wp2
              clear hmc hyc
              have m3 := fun W (h : Ext V W) => (B5.out.ext h).c5.2.2.2.1
              have mm := fun W (h : Ext V W) => (M5.out.ext h).c4
              have my := fun W (h : Ext V W) => (RM5.out.ext h).cell HY.out
              by_cases hyx : y < x.bales
              · have HSD := Lib.hid (show prTo c l o (i + 1) = o1.set s (max x1 (y1 - 1)) by rw [HPS.out, decide_eq_true hyx]; exact prD_on HX1.out HY1.out)
                refine wp_region_tame (fun W => Ext V W) (fun W W' => Ext W W') (by kernel_rfl) 90 rfl (by decide +kernel) (Ext.refl _).drew ?_
                repeat (apply tame_q rfl; (intro ρ W hC hr hD; (obtain ⟨hrc, hrg, hrf, hrs⟩ := hr); (simp [go_sem] at hD); go_simp; first | exact ⟨⟨hC, Ext.refl _⟩, rfl⟩ | exact ⟨⟨hC, RS.refl _⟩, rfl⟩ | exact rfl); simp only [List.nil_append, List.cons_append])
                refine tame_end_put rfl rfl (fun ρ V6 hC hr hF => ?_)
                simp [go_sem] at hF
                simp only [putF, hF, List.set_cons_succ, List.set_cons_zero]
                clear hF hr
                have HC := Lib.hid hC
                clear hC
                clear m3 mm my
                have R6 := Lib.hid (R5.out.ext HC.out); have G6 := Lib.hid (grown_ext G5.out HC.out); have OW6 := Lib.hid (OW5.out.ext HC.out)
                clear HC
                have rs := fun W (h : Ext V6 W) => (R6.out.ext h).cell HX1.out
                have rb := fun W (h : Ext V6 W) => (R6.out.ext h).cell HY1.out
                go_wp2
                refine wp_region_tame_cut (fun W => Ext V6 W) (fun W W' => Ext W W') (by kernel_rfl) 90 rfl _ rfl (by decide +kernel) (by decide +kernel) (by decide +kernel) rfl (Ext.refl _).drew ?_
                simp only [List.dropLast]
                repeat (apply tame_q rfl; (intro ρ W hC hr hD; (obtain ⟨hrc, hrg, hrf, hrs⟩ := hr); (simp [go_sem] at hD); go_simp; first | exact ⟨⟨hC, Ext.refl _⟩, rfl⟩ | exact ⟨⟨hC, RS.refl _⟩, rfl⟩ | exact rfl); simp only [List.nil_append, List.cons_append])
                refine tame_end 90 rfl rfl (fun ρ V7 hC hr hF => ?_)
                obtain ⟨hrc, hrg, hrf, hrs⟩ := hr
                simp [go_sem] at hF
                apply frame_to
                · go_simp
                  exact rfl
                clear hF hrs hrc hrg hrf
                have HC := Lib.hid hC
                clear hC
                clear rs rb
                have R7 := Lib.hid (R6.out.ext HC.out); have G7 := Lib.hid (grown_ext G6.out HC.out); have OW7 := Lib.hid (OW6.out.ext HC.out)
                clear HC
                have rs := R7.out.cell HX1.out
                have rf := R7.out.frozen
                have rl := R7.out.lt
                go_wp2
                exact Handed.intro (n2 - (i + 1)) (by omega) (HJ2.out _ _ _ ⟨i + 1, by omega, Nat.le_refl _, ⟨rfl, rfl, by simp [Act.eval]⟩, grown_set G7.out (p := ⟨w3.heap.size, s, none⟩) (.inl rfl) _, by rw [HSD.out]; exact R7.out.set s _, own_kept (g := w3.heap.size) OW7.out (grown_set (World.grownBy.refl _ _) (p := ⟨w3.heap.size, s, none⟩) (.inl rfl) _) (by omega)⟩)
              · have HSD := Lib.hid (show prTo c l o (i + 1) = o1 by rw [HPS.out, decide_eq_false hyx]; exact prD_off)
                refine wp_region_tame (fun W => Ext V W) (fun W W' => Ext W W') (by kernel_rfl) 90 rfl (by decide +kernel) (Ext.refl _).drew ?_
                repeat (apply tame_q rfl; (intro ρ W hC hr hD; (obtain ⟨hrc, hrg, hrf, hrs⟩ := hr); (simp [go_sem] at hD); go_simp; first | exact ⟨⟨hC, Ext.refl _⟩, rfl⟩ | exact ⟨⟨hC, RS.refl _⟩, rfl⟩ | exact rfl); simp only [List.nil_append, List.cons_append])
                refine tame_end_put rfl rfl (fun ρ V6 hC hr hF => ?_)
                simp [go_sem] at hF
                simp only [putF, hF, List.set_cons_succ, List.set_cons_zero]
                clear hF hr
                have HC := Lib.hid hC
                clear hC
                clear m3 mm my
                have R6 := Lib.hid (R5.out.ext HC.out); have G6 := Lib.hid (grown_ext G5.out HC.out); have OW6 := Lib.hid (OW5.out.ext HC.out)
                clear HC
                go_wp2
                exact Handed.intro (n2 - (i + 1)) (by omega) (HJ2.out _ _ _ ⟨i + 1, by omega, Nat.le_refl _, ⟨rfl, rfl, by simp [Act.eval]⟩, G6.out, by rw [HSD.out]; exact R6.out, OW6.out⟩)
          · have HE := Lib.hid (show i = n2 by omega)
            go_wp2
            have hrw := RW.out
            rw [show prTo c l o i = prIt c l (k + 1) by rw [prIt, HOI.out, prPass]; congr 1; have := HE.out; have := HN2.out; omega] at hrw
            have hgap : gap o π < g := by
              rcases HK.out with ⟨rfl, -, h1⟩ | ⟨j, rfl, h1, h2⟩
              · rw [← HOI.out]; omega
              · have h3 : prPass c l (prIt c l j) ≠ prIt c l j := fun e => HQ.out (by rw [h1]; exact e.symm)
                have h4 := pr_step HTOP.out (fun v => (H06.out v).1) j h3
                rw [← HOI.out]; omega
            exact Handed.intro (gap o π) hgap (HJ.out _ _ _ ⟨k + 1, vw2, o, .inr ⟨k, rfl, HOI.out.symm, Nat.le_of_eq (by rw [HOI.out])⟩, ⟨rfl, rfl, by simp [Act.eval]⟩, HG.out, hrw, OW.out⟩)
end Go.Proofs.YtafdbgielmlihaaDoor
/- Adds: the program's and the reference's. -/
namespace Go.Proofs.YtafdbgielmlihaaDoor
open Go.RowKit Go.Shelf Go.Lib
set_option maxRecDepth 100000
set_option linter.unusedSimpArgs false

def addsE (c : Chn) (x : Sale) : Int := if checkP c then (if rightP (withC c x) then 0 else 61) else 60
/-- What a sale more adds: l closes the chain, m the chain with the sale. -/
def AddsOf (c : Chn) (x : Sale) (v : Int) : Prop := (addsE c x = 0 → ∃ l m, IsClose c l ∧ IsClose (withC c x) m ∧ v = sumI m - sumI l) ∧ (addsE c x ≠ 0 → v = 0)
/-- A number, and an error. -/
def NumE (v E : Int) (w : World) (e : Ending) (w' : World) : Prop := e = .returned (.tuple #[.int .i64 v, .int .i64 E]) ∧ Ext w w'
def MkA (l : List Int) (o : Nat) (v : Value) (W : World) : Prop := ∃ mb gm hv sv cv, v = .pointer (some ⟨mb, o, none⟩) ∧ Blk W mb 112 #[hv, sv, .slice (some ⟨gm, 0, none⟩) l.length l.length, cv] ∧ RowI W gm l
theorem MkA.ext {l : List Int} {o : Nat} {v : Value} {W W' : World} (h : MkA l o v W) (e : Ext W W') : MkA l o v W' := by
  obtain ⟨mb, gm, hv, sv, cv, h1, h2, h3⟩ := h
  exact ⟨mb, gm, hv, sv, cv, h1, h2.ext e, h3.ext e⟩
end Go.Proofs.YtafdbgielmlihaaDoor
/- The values of the chapter's examples (layer 6). -/
namespace Go.Proofs.YtafdbgielmlihaaDoor
open Go.RowKit Go.Shelf
set_option maxRecDepth 100000
set_option linter.unusedSimpArgs false

/-- What can move, asked by counting. -/
def feasB : List Sal → List Int → Bool
  | x :: S, y :: m => decide (0 ≤ y) && decide (y ≤ x.cap) && feasB S m
  | [], [] => true
  | _, _ => false
theorem feas_B : ∀ {S : List Sal} {m : List Int}, feasB S m = true → Feas S m
  | [], [], _ => trivial
  | x :: S, y :: m, h => by
    simp only [feasB, Bool.and_eq_true, decide_eq_true_eq] at h
    exact ⟨h.1, feas_B h.2⟩
  | [], _ :: _, h => by simp [feasB] at h
  | _ :: _, [], h => by simp [feasB] at h
def optB (S : List Sal) (n : Nat) (full m π : List Int) : Bool :=
  feasB S m && ((S.all fun x => decide (x.s < n) && decide (x.b < n)) && (((List.range n).all fun v => decide (net S m v = net S full v)) && (resArcs 0 S m).all fun a => decide (π[a.dst]?.getD 0 ≤ π[a.src]?.getD 0 + a.w)))
theorem opt_B {S : List Sal} {n : Nat} {full m π : List Int} (h : optB S n full m π = true) : Opt S full m := by
  unfold optB at h
  simp only [Bool.and_eq_true, List.all_eq_true, decide_eq_true_eq, List.mem_range] at h
  obtain ⟨h1, h2, h3, h4⟩ := h
  refine ⟨feas_B h1, fun v => ?_, fun v => π[v]?.getD 0, h4⟩
  by_cases hv : v < n
  · exact h3 v hv
  · rw [net_far (by omega) S m h2, net_far (by omega) S full h2]

/-- The chain of the examples. -/
def ringC : Chn := ⟨[1, 2, 3, 4], [⟨1, 1, 2, 5, 500⟩, ⟨2, 2, 3, 4, 510⟩, ⟨3, 3, 1, 3, 520⟩, ⟨4, 2, 4, 2, 505⟩, ⟨5, 1, 3, 2, 515⟩]⟩
def ring6 : Sale := ⟨6, 4, 1, 2, 500⟩
theorem ring_check : checkP ringC = true := by kernel_rfl
theorem ring_close : IsClose ringC [2, 1, 0, 2, 2] :=
  opt_B (n := 4) (π := [-20000000011000, -10000000001000, 0, 0]) (by kernel_rfl)
theorem ring_closeOf : CloseOf ringC [2, 1, 0, 2, 2] := ⟨fun _ => ring_close, fun h => by rw [ring_check] at h; cases h⟩
theorem ring6_close : IsClose (withC ringC ring6) [0, 1, 0, 0, 2, 0] :=
  opt_B (n := 4) (π := [-10000000000010, -10000000010000, 0, -9900]) (by kernel_rfl)
theorem ring_adds : AddsOf ringC ring6 (-4) :=
  ⟨fun _ => ⟨_, _, ring_close, ring6_close, by kernel_rfl⟩, fun h => absurd (by kernel_rfl) h⟩
theorem ring_range1 : RangeOf ringC 1 2 2 :=
  ⟨fun _ => ⟨⟨_, opt_B (m := [2, 1, 0, 2, 2]) (n := 4) (π := [-2001, -1000, 0, 0]) (by kernel_rfl), by kernel_rfl⟩, ⟨_, opt_B (m := [2, 1, 0, 2, 2]) (n := 4) (π := [-1999, -1000, 0, 0]) (by kernel_rfl), by kernel_rfl⟩⟩, fun h => absurd (by kernel_rfl) h⟩
theorem ring_proof : ProofOf ringC [2, 1, 0, 2, 2] [0, 1, 2, 2] :=
  ⟨fun _ => ⟨4, by kernel_rfl, by kernel_rfl⟩, fun h => by rw [ring_check] at h; cases h⟩
theorem ring_owed : owedL ringC = [-4, -1, 3, 2] := by kernel_rfl
theorem ring_passes : passesL ringC [2, 1, 0, 2, 2] = [2] := by kernel_rfl
theorem ring_hands : handsL ringC [2, 1, 0, 2, 2] = [⟨1, 3, 3⟩, ⟨1, 4, 1⟩, ⟨2, 4, 1⟩] := by kernel_rfl
theorem ring_pays : paysL ringC [2, 1, 0, 2, 2] 505 = [-60, 30, 30, 0] := by kernel_rfl
theorem ring_loses : losesL ringC 2 ⟨500, 520⟩ = [⟨0, 0⟩, ⟨0, 0⟩, ⟨0, 40⟩, ⟨0, 30⟩] := by kernel_rfl
theorem ring_worst : worstP ringC ⟨500, 520⟩ = (1, 130) := by kernel_rfl
theorem ring_way : WayOf ringC 1 4 [1, 4] 0 := by
  unfold WayOf
  rw [if_pos ring_check, if_pos (by kernel_rfl)]
  exact .inl ⟨2, ⟨by kernel_rfl, fun j hj => by
    rcases j with _ | _ | j
    · kernel_rfl
    · kernel_rfl
    · omega⟩, by kernel_rfl, rfl⟩
/-- Without the third sale. -/
def ring4 : Chn := ⟨[1, 2, 3, 4], [⟨1, 1, 2, 5, 500⟩, ⟨2, 2, 3, 4, 510⟩, ⟨4, 2, 4, 2, 505⟩, ⟨5, 1, 3, 2, 515⟩]⟩
theorem ring_strike : strikeC ringC [3] = ring4 := by kernel_rfl
theorem ring_strikeE : strikeE ringC [3] = 0 := by kernel_rfl
theorem ring_put : putC ring4 ⟨3, 3, 1, 3, 520⟩ = ringC := by kernel_rfl
theorem ring_putE : putE ring4 ⟨3, 3, 1, 3, 520⟩ = 0 := by kernel_rfl
theorem ring_stop : stopC ringC 2 = ⟨[1, 2, 3, 4], [⟨3, 3, 1, 3, 520⟩, ⟨5, 1, 3, 2, 515⟩]⟩ := by kernel_rfl
theorem ring_stopE : stopE ringC 2 = 0 := by kernel_rfl
end Go.Proofs.YtafdbgielmlihaaDoor
/- What stands still while a law of the chain runs. -/
namespace Go.Proofs.YtafdbgielmlihaaDoor
open Go.RowKit Go.Shelf Go.Lib
set_option maxRecDepth 100000

/-- What stands still while the law runs. -/
structure CsT (c : Chn) (w : World) (q : Nat) (hv sv h2 s2 : Value) (W : World) : Prop where
  e : Ext w W
  p : Blk W w.heap.size 25 #[hv, sv]
  q : Blk W q 25 #[h2, s2]
  t : Tab W
  a1 : SlI W hv c.houses
  a2 : SlL W sv c.sales
  b1 : SlI W h2 c.houses
  b2 : SlL W s2 c.sales
theorem CsT.ext {c : Chn} {w : World} {q : Nat} {hv sv h2 s2 : Value} {W W' : World} (h : CsT c w q hv sv h2 s2 W) (e : Ext W W') : CsT c w q hv sv h2 s2 W' :=
  ⟨h.e.trans e, h.p.ext e, h.q.ext e, h.t.ext e, h.a1.ext e, h.a2.ext e, h.b1.ext e, h.b2.ext e⟩
end Go.Proofs.YtafdbgielmlihaaDoor
/- The small functions of the outright laws: span, sale, ring, is, ready, sum. -/
namespace Go.Proofs.YtafdbgielmlihaaDoor
open Go.RowKit Go.Shelf Go.Lib
set_option maxRecDepth 100000
set_option linter.unusedSimpArgs false

theorem Own.lit {α : Type} {enc : α → List Value} {e : TypeId} {sz : Nat} {W : World} {base g : Nat} {l : List α} {cs : Array Value} (henc : ∀ x, (enc x).length = sz) (h : Blk W g e cs) (hcs : cs = (l.flatMap enc).toArray) (hb : base ≤ g) (hl : l.length ≤ 1000) : Own enc e sz W base (.slice (some ⟨g, 0, none⟩) l.length l.length) l := by
  have hlen := enc_len henc l
  subst hcs
  exact ⟨hlen, .inr ⟨g, l.length, _, rfl, hb, h, Nat.le_refl _, by unfold maxLen; omega, by simpa using hlen, by rw [← hlen, List.toList_toArray, List.take_length]⟩⟩
theorem span_any (a b : Int) (w : World) : Calls Tryd.prog 57 #[.int .i64 a, .int .i64 b] w fun e w' => e = .returned (valSp ⟨a, b⟩) ∧ Ext w w' := by
  go_enter Tryd.func57, Tryd.ntmps57
  go_wp2
  refine bodyPost_ret (v := valSp ⟨a, b⟩) (by simp [results, Tryd.results57, go_sem]) rfl ?_
  exact ⟨rfl, Ext.al _ _⟩
theorem sale_any (n s b k p : Int) (w : World) : Calls Tryd.prog 59 #[.int .i64 n, .int .i64 s, .int .i64 b, .int .i64 k, .int .i64 p] w fun e w' => e = .returned (valL ⟨n, s, b, k, p⟩) ∧ Ext w w' := by
  go_enter Tryd.func59, Tryd.ntmps59
  go_wp2
  refine bodyPost_ret (v := valL ⟨n, s, b, k, p⟩) (by simp [results, Tryd.results59, go_sem]) rfl ?_
  exact ⟨rfl, Ext.al _ _⟩
set_option maxHeartbeats 2000000 in
theorem ring_any (w : World) : Calls Tryd.prog 56 #[] w fun e w' => (∃ v, e = .returned v ∧ TwinC ringC w.heap.size v w') ∧ Ext w w' := by
  go_enter Tryd.func56, Tryd.ntmps56
  go_wp2_with fail
  generalize hw1 : (w.alloc (.cells #[.slice none 0 0, .slice none 0 0] 25)).alloc (.cells #[.int .i64 1, .int .i64 2, .int .i64 3, .int .i64 4] 3) = w1
  have E1 := Lib.hid (show Ext w w1 from hw1 ▸ (Ext.al _ _).alloc _)
  have B1 := Lib.hid (show Blk w1 w.heap.size 25 #[.slice none 0 0, .slice none 0 0] from hw1 ▸ (Blk.new _ _ _).alloc _)
  have B2 := Lib.hid (show Blk w1 (w.heap.size + 1) 3 #[.int .i64 1, .int .i64 2, .int .i64 3, .int .i64 4] from hw1 ▸ Blk.at_ (by simp))
  clear hw1
  refine (sale_any 1 1 2 5 500 _).mono ?_
  rintro e w2 ⟨rfl, hE⟩
  replace E1 := Lib.hid (E1.out.trans hE); replace B1 := Lib.hid (B1.out.ext hE); replace B2 := Lib.hid (B2.out.ext hE); clear hE
  go_wp2_with fail
  refine (sale_any 2 2 3 4 510 _).mono ?_
  rintro e w3 ⟨rfl, hE⟩
  replace E1 := Lib.hid (E1.out.trans hE); replace B1 := Lib.hid (B1.out.ext hE); replace B2 := Lib.hid (B2.out.ext hE); clear hE
  go_wp2_with fail
  refine (sale_any 3 3 1 3 520 _).mono ?_
  rintro e w4 ⟨rfl, hE⟩
  replace E1 := Lib.hid (E1.out.trans hE); replace B1 := Lib.hid (B1.out.ext hE); replace B2 := Lib.hid (B2.out.ext hE); clear hE
  go_wp2_with fail
  refine (sale_any 4 2 4 2 505 _).mono ?_
  rintro e w5 ⟨rfl, hE⟩
  replace E1 := Lib.hid (E1.out.trans hE); replace B1 := Lib.hid (B1.out.ext hE); replace B2 := Lib.hid (B2.out.ext hE); clear hE
  go_wp2_with fail
  refine (sale_any 5 1 3 2 515 _).mono ?_
  rintro e w6 ⟨rfl, hE⟩
  replace E1 := Lib.hid (E1.out.trans hE); replace B1 := Lib.hid (B1.out.ext hE); replace B2 := Lib.hid (B2.out.ext hE); clear hE
  have t0 := B1.out.c2
  go_wp2
  generalize hW : World.alloc _ _ = W
  have EW := Lib.hid (show Ext w W from hW ▸ ((E1.out.setCell (by dsimp only; omega) _).setCell (by dsimp only; omega) _).alloc _)
  have C1 := Lib.hid (show Blk W w.heap.size 25 #[.slice (some ⟨w.heap.size + 1, 0, none⟩) 4 4, .slice (some ⟨w6.heap.size, 0, none⟩) 5 5] from hW ▸ (B1.out.set2 _ _).alloc _)
  have C2 := Lib.hid (show Blk W (w.heap.size + 1) 3 #[.int .i64 1, .int .i64 2, .int .i64 3, .int .i64 4] from hW ▸ ((B2.out.far (by dsimp only; omega) _).far (by dsimp only; omega) _).alloc _)
  have C3 := Lib.hid (show Blk W w6.heap.size 68 #[.int .i64 1, .int .i64 1, .int .i64 2, .int .i64 5, .int .i64 500, .int .i64 2, .int .i64 2, .int .i64 3, .int .i64 4, .int .i64 510, .int .i64 3, .int .i64 3, .int .i64 1, .int .i64 3, .int .i64 520, .int .i64 4, .int .i64 2, .int .i64 4, .int .i64 2, .int .i64 505, .int .i64 5, .int .i64 1, .int .i64 3, .int .i64 2, .int .i64 515] from hW ▸ Blk.at_ (by simp [World.setCell]))
  clear hW
  have t1 := C1.out.c2
  obtain ⟨b0, b1, -, -⟩ := t1
  have HZ := Lib.hid (show w.heap.size ≤ w6.heap.size from E1.out.size)
  refine bodyPost_ret (v := valC (.slice (some ⟨w.heap.size + 1, 0, none⟩) 4 4) (.slice (some ⟨w6.heap.size, 0, none⟩) 5 5)) (by simp [results, Tryd.results56, go_sem, b0, b1]) rfl ?_
  exact ⟨⟨_, rfl, ⟨_, _, rfl, Own.lit (enc := encI) (l := ringC.houses) (fun _ => rfl) C2.out rfl (by omega) (by decide), Own.lit (enc := encL) (l := ringC.sales) (fun _ => rfl) C3.out rfl HZ.out (by decide)⟩⟩, EW.out⟩
theorem is_any (l : List Int) (v v' : Value) (w : World) (h : SlI w v l) (h' : SlI w v' l) :
    Calls Tryd.prog 58 #[v, .int .i64 0, v'] w fun e w' => e = .returned (.bool true) ∧ Ext w w' := by
  have H := Lib.hid h; have H' := Lib.hid h'
  clear h h'
  go_enter Tryd.func58, Tryd.ntmps58
  go_wp2_with fail
  refine (sameInts_any l _ _ _ H.out H'.out).mono ?_
  rintro e w2 ⟨rfl, hE⟩
  go_wp2
  go_ret
  exact ⟨rfl, hE⟩
theorem great_check {c : Chn} (h : checkP c = true) : greatB c = false := by
  obtain ⟨hR, hN⟩ := check_right h
  have := hR.h6
  unfold greatB
  simp
  omega
theorem ready_any (c : Chn) (hv sv : Value) (w : World) (hh : SlI w hv c.houses) (hs : SlL w sv c.sales) :
    Calls Tryd.prog 60 #[valC hv sv] w fun e w' => e = .returned (.bool (checkP c)) ∧ Ext w w' := by
  have HH := Lib.hid hh; have HS := Lib.hid hs
  obtain ⟨A, n, cp, rfl, hn, hlc, hcm⟩ := hh.form
  obtain ⟨A2, n2, cp2, rfl, hn2, hlc2, hcm2⟩ := hs.form
  have B0 := Lib.hid (show Blk (w.alloc (.cells #[.slice A n cp, .slice A2 n2 cp2] 25)) w.heap.size 25 #[.slice A n cp, .slice A2 n2 cp2] from Blk.new _ _ _)
  clear hh hs
  go_enter Tryd.func60, Tryd.ntmps60
  go_wp2_with fail
  refine (great_any c _ _ _ (HH.out.ext (Ext.al _ _)) (HS.out.ext (Ext.al _ _))).mono ?_
  rintro e w1 ⟨rfl, hE⟩
  have E1 := Lib.hid ((Ext.al w _).trans hE)
  have B1 := Lib.hid (B0.out.ext hE)
  clear hE
  have t0 := B1.out.c2
  cases hg : greatB c with
  | true =>
    have hc : checkP c = false := by
      cases hc : checkP c with
      | false => rfl
      | true => rw [great_check hc] at hg; cases hg
    have HC := Lib.hid hc
    clear hc hg
    go_wp2
    go_ret
    exact ⟨by rw [HC.out]; rfl, E1.out⟩
  | false =>
    clear hg
    go_wp2_with fail
    refine (refChain_any c _ _ _ (HH.out.ext E1.out) (HS.out.ext E1.out)).mono ?_
    rintro e w2 ⟨rfl, hE⟩
    go_wp2
    go_ret
    exact ⟨rfl, E1.out.trans hE⟩
end Go.Proofs.YtafdbgielmlihaaDoor
