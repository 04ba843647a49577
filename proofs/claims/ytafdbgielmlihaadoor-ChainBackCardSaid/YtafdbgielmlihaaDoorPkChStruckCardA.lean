/- ChainWay, plain: no bale goes by fewer sales than the way; the way leads there. -/
import Derived.Test.YtafdbgielmlihaaDoorPkChClosedCardN
import Derived.Test.YtafdbgielmlihaaDoorPkChClosedCardO
import Derived.Test.YtafdbgielmlihaaDoorPkChClosedCardA
import Derived.Test.YtafdbgielmlihaaDoorPkChSumsCardA
namespace Go.Proofs.YtafdbgielmlihaaDoor
open Go.RowKit Go.Shelf
set_option linter.unusedSimpArgs false

theorem idxZ_pos {α : Type} {p : α → Bool} {l : List α} (h : 0 ≤ idxF p l) : ∃ (k : Nat) (x : α), idxF p l = (k : Int) ∧ l[k]? = some x ∧ p x = true := by
  rcases idxF_cases p l with ⟨e, _⟩ | ⟨k, x, e, h1, h2, _⟩
  · rw [e] at h; omega
  · exact ⟨k, x, e, h1, h2⟩
/-- Sales by which a bale goes from house to house. -/
def Goes (c : Chn) (t : Int) : Int → List Sale → Prop
  | a, [] => a = t
  | a, x :: L => x ∈ c.sales ∧ x.seller = a ∧ Goes c t x.buyer L
theorem goes_snoc {c : Chn} {x : Sale} (hx : x ∈ c.sales) : ∀ {L : List Sale} {a : Int}, Goes c x.seller a L → Goes c x.buyer a (L ++ [x])
  | [], _, h => ⟨hx, h.symm, rfl⟩
  | _ :: _, _, h => ⟨h.1, h.2.1, goes_snoc hx h.2.2⟩
theorem goes_to {c : Chn} {t : Int} : ∀ {L : List Sale} {a : Int}, Goes c t a L → toB c t L.length a = true
  | [], a, h => by rw [show a = t from h]; exact toB_self _ _ _
  | x :: _, _, h => toB_succ.2 (.inr ⟨x, h.1, h.2.1, goes_to h.2.2⟩)
theorem away_le {c : Chn} {t a : Int} {d : Nat} (h : Away c t d a) {L : List Sale} (hL : Goes c t a L) : d ≤ L.length := by
  apply Classical.byContradiction
  intro hn
  have := h.n L.length (by omega)
  rw [goes_to hL] at this
  cases this
def aheadB : List Int → List Int → Bool
  | x :: a, y :: b => if x = y then aheadB a b else decide (x < y)
  | _, _ => false
theorem sales_inj {c : Chn} (hR : Right c) {i j : Nat} {x y : Sale} (hx : c.sales[i]? = some x) (hy : c.sales[j]? = some y) (h : i < j) : x.number < y.number := by
  have hp := rising_pair hR.sr
  rw [List.pairwise_iff_getElem] at hp
  obtain ⟨h1, rfl⟩ := List.getElem?_eq_some_iff.1 hx
  obtain ⟨h2, rfl⟩ := List.getElem?_eq_some_iff.1 hy
  have := hp i j (by simpa using h1) (by simpa using h2) h
  simpa using this
theorem saleI_at {c : Chn} (hR : Right c) {i : Nat} {x : Sale} (hx : c.sales[i]? = some x) : saleI c x.number = (i : Int) := by
  unfold saleI
  exact idxF_some _ _ i x hx (by simp) fun j y hj hy => by
    have := sales_inj hR hy hx hj
    exact decide_eq_false (by omega)
theorem way_len {c : Chn} {t : Int} : ∀ {d : Nat} {a : Int}, Away c t d a → (wayG c t d a).length = d
  | 0, _, _ => rfl
  | d + 1, a, h => by
    obtain ⟨i, x, -, hf, -, -, h2⟩ := away_step h
    rw [wayG, hf]
    simp [way_len h2]
theorem not_ahead {c : Chn} (hR : Right c) {t : Int} : ∀ {d : Nat} {a : Int} {L : List Sale}, Away c t d a → Goes c t a L → L.length = d → aheadB (L.map (·.number)) (wayG c t d a) = false
  | 0, _, [], _, _, _ => rfl
  | 0, _, _ :: _, _, _, h => by simp at h
  | d + 1, _, [], _, _, h => by simp at h
  | d + 1, a, x :: L, h, hg, hl => by
    obtain ⟨i, z, hz, hf, -, hb, h2⟩ := away_step h
    obtain ⟨g1, g2, g3⟩ := hg
    obtain ⟨j, hj⟩ := List.getElem?_of_mem g1
    have hl' : L.length = d := by simpa using hl
    have hn : nearB c t a d x = true := by
      have := goes_to g3
      rw [hl'] at this
      simp [nearB, g2, this]
    rw [wayG, hf]
    simp only [List.map_cons, aheadB]
    rcases Nat.lt_trichotomy j i with e | e | e
    · rw [hb j x e hj] at hn; cases hn
    · subst e
      rw [hz] at hj
      injection hj with hj
      subst hj
      rw [if_pos rfl]
      exact not_ahead hR h2 g3 hl'
    · have := sales_inj hR hz hj e
      rw [if_neg (by omega)]
      exact decide_eq_false (by omega)
/-- The numbers lead from house to house. -/
def Leads (c : Chn) (t : Int) : Int → List Int → Prop
  | a, [] => a = t
  | a, k :: l => ∃ (i : Nat) (x : Sale), saleI c k = (i : Int) ∧ c.sales[i]? = some x ∧ x.seller = a ∧ Leads c t x.buyer l
theorem way_leads {c : Chn} (hR : Right c) {t : Int} : ∀ {d : Nat} {a : Int}, Away c t d a → Leads c t a (wayG c t d a)
  | 0, a, h => by
    have := h.y
    simp [toB] at this
    exact this
  | d + 1, a, h => by
    obtain ⟨i, z, hz, hf, hn, -, h2⟩ := away_step h
    rw [wayG, hf]
    unfold nearB at hn
    simp only [Bool.and_eq_true, decide_eq_true_eq] at hn
    exact ⟨i, z, saleI_at hR hz, hz, hn.1, way_leads hR h2⟩
end Go.Proofs.YtafdbgielmlihaaDoor
/- ChainBack, plain: a sale more, and one back, never make more bales move. -/
namespace Go.Proofs.YtafdbgielmlihaaDoor
open Go.RowKit Go.Shelf
set_option linter.unusedSimpArgs false

def insI (l : List Int) (p : Nat) (y : Int) : List Int := l.take p ++ y :: l.drop p
theorem net_ins (v : Nat) : ∀ (p : Nat) (S : List Sal) (m : List Int) (s : Sal) (y : Int), p ≤ S.length → m.length = S.length → net (S.take p ++ s :: S.drop p) (insI m p y) v = net S m v + y * (one (s.b = v) - one (s.s = v))
  | 0, S, m, s, y, _, _ => by simp only [insI, List.take_zero, List.drop_zero, List.nil_append, net]; omega
  | p + 1, x :: S, a :: m, s, y, h, hl => by
    have := net_ins v p S m s y (by simpa using h) (by simpa using hl)
    unfold insI at this
    simp only [insI, List.take_succ_cons, List.drop_succ_cons, List.cons_append, net]
    rw [this]
    omega
  | p + 1, [], _, _, _, h, _ => by simp at h
  | p + 1, x :: S, [], _, _, _, hl => by simp at hl
theorem sumI_ins (m : List Int) (p : Nat) (y : Int) : sumI (insI m p y) = sumI m + y := by
  have app : ∀ (a b : List Int), sumI (a ++ b) = sumI a + sumI b := fun a => by
    induction a with
    | nil => intro b; simp [sumI]
    | cons x a ih => intro b; simp only [List.cons_append, sumI]; rw [ih]; omega
  unfold insI
  have := app (m.take p) (m.drop p)
  rw [List.take_append_drop] at this
  rw [app, sumI]
  omega
theorem feas_ins : ∀ (p : Nat) {S : List Sal} {m : List Int} {s : Sal} {y : Int}, p ≤ S.length → Feas S m → 0 ≤ y ∧ y ≤ s.cap → Feas (S.take p ++ s :: S.drop p) (insI m p y)
  | 0, S, m, s, y, _, h, hy => ⟨hy, h⟩
  | p + 1, x :: S, a :: m, s, y, h, hF, hy => ⟨hF.1, feas_ins p (by simpa using h) hF.2 hy⟩
  | p + 1, [], _, _, _, h, _, _ => by simp at h
  | p + 1, x :: S, [], _, _, _, hF, _ => hF.elim
theorem ins_len {m : List Int} {p : Nat} (hp : p ≤ m.length) (y : Int) : (insI m p y).length = m.length + 1 := by
  simp only [insI, List.length_append, List.length_take, List.length_cons, List.length_drop]
  omega
theorem with_sals (c : Chn) (x : Sale) : salsOf (withC c x) = (salsOf c).take (posL c.sales x.number) ++ salOf c x :: (salsOf c).drop (posL c.sales x.number) := by
  show ((withC c x).sales).map (salOf c) = _
  unfold withC salsOf
  simp only [List.map_append, List.map_cons, List.map_take, List.map_drop]
theorem with_bales (c : Chn) (x : Sale) : balesOf (withC c x) = insI (balesOf c) (posL c.sales x.number) x.bales := by
  unfold withC balesOf insI
  simp only [List.map_append, List.map_cons, List.map_take, List.map_drop]
theorem balesZ_len (c : Chn) : (balesOf c).length = c.sales.length := by simp [balesOf]
theorem closes_of_feas {c : Chn} {m : List Int} (hF : Feas (salsOf c) m) (hg : ∀ v, net (salsOf c) m v = net (salsOf c) (balesOf c) v) : Closes c m :=
  ⟨by rw [feas_len hF, sals_len], fun i x y hx hy => feas_get hF i _ y (sals_get hx) hy, hg⟩
/-- **Two sales more, one back at as many bales: no more bales move.** -/
theorem back_sum {c : Chn} {x y : Sale} {l o : List Int} (hR2 : Right (withC (withC c x) y)) (hN : (withC (withC c x) y).sales.length ≤ 11) (hl : Closes c l) (ho : IsClose (withC (withC c x) y) o)
    (h1 : y.seller = x.buyer) (h2 : y.buyer = x.seller) (h3 : y.bales = x.bales) (hb : 0 ≤ x.bales) : sumI o ≤ sumI l := by
  have p1 := posL_le c.sales x.number
  have p2 := posL_le (withC c x).sales y.number
  rw [withC_len] at p2
  have hF1 := feas_ins (s := salOf c x) (y := 0) (posL c.sales x.number) (by rw [sals_len]; exact p1) (closes_feas hl) ⟨Int.le_refl _, hb⟩
  rw [← with_sals] at hF1
  have hF2 := feas_ins (s := salOf (withC c x) y) (y := 0) (posL (withC c x).sales y.number) (by rw [sals_len, withC_len]; exact p2) hF1 ⟨Int.le_refl _, by show 0 ≤ y.bales; omega⟩
  rw [← with_sals] at hF2
  have hll := hl.len
  have hbl := balesZ_len c
  have hc := close_least hR2 hN ho (m := insI (insI l (posL c.sales x.number) 0) (posL (withC c x).sales y.number) 0) (closes_of_feas hF2 fun v => by
    rw [with_bales, with_sals (withC c x) y, with_bales,
      net_ins v _ _ _ _ _ (by rw [sals_len, withC_len]; exact p2) (by rw [ins_len (by omega), sals_len, withC_len, hll]), net_ins v _ _ _ _ _ (by rw [sals_len, withC_len]; exact p2) (by rw [ins_len (by omega), sals_len, withC_len, hbl]), with_sals,
      net_ins v _ _ _ _ _ (by rw [sals_len]; exact p1) (by rw [sals_len, hll]), net_ins v _ _ _ _ _ (by rw [sals_len]; exact p1) (by rw [sals_len, hbl]), hl.gets v, h3]
    have e1 : (salOf (withC c x) y).b = (salOf c x).s := by show (houseI c y.buyer).toNat = (houseI c x.seller).toNat; rw [h2]
    have e2 : (salOf (withC c x) y).s = (salOf c x).b := by show (houseI c y.seller).toNat = (houseI c x.buyer).toNat; rw [h1]
    rw [e1, e2]
    simp only [Int.mul_sub]
    omega)
  rw [sumI_ins, sumI_ins] at hc
  omega
theorem sumI_bump : ∀ (m : List Int) (i : Nat) (δ : Int), i < m.length → sumI (bump m i δ) = sumI m + δ
  | y :: m, 0, δ, _ => by simp only [bump, List.modify_zero_cons, sumI]; omega
  | y :: m, i + 1, δ, h => by
    have := sumI_bump m i δ (by simpa using h)
    unfold bump at this
    simp only [bump, List.modify_succ_cons, sumI]
    omega
  | [], _, _, h => by simp at h
/-- Not both of them move. -/
theorem back_one {c : Chn} {x y : Sale} {o : List Int} (hR : Right c) (hN : c.sales.length ≤ 11) (ho : IsClose c o) {i j : Nat} (hi : c.sales[i]? = some x) (hj : c.sales[j]? = some y) (h1 : y.seller = x.buyer) (h2 : y.buyer = x.seller) :
    o[i]?.getD 0 = 0 ∨ o[j]?.getD 0 = 0 := by
  have hc := closes_close ho
  have li := (List.getElem?_eq_some_iff.1 hi).1
  have lj := (List.getElem?_eq_some_iff.1 hj).1
  have hij : i ≠ j := by
    rintro rfl
    rw [hi] at hj
    injection hj with hj
    subst hj
    exact (hR.sale x (List.mem_of_getElem? hi)).1 h1
  have gi := List.getElem?_eq_getElem (show i < o.length by rw [hc.len]; exact li)
  have gj := List.getElem?_eq_getElem (show j < o.length by rw [hc.len]; exact lj)
  have bi := hc.bd i x _ hi gi
  have bj := hc.bd j y _ hj gj
  rw [gi, gj]
  have li' : i < o.length := by rw [hc.len]; exact li
  have lj' : j < o.length := by rw [hc.len]; exact lj
  show o[i] = 0 ∨ o[j] = 0
  apply Classical.byContradiction
  intro hn
  have hlb : (bump o i (-1)).length = c.sales.length := by rw [bump_len, hc.len]
  have hm : Closes c (bump (bump o i (-1)) j (-1)) := by
    refine ⟨by rw [bump_len, hlb], fun k z w hz hw => ?_, fun v => ?_⟩
    · have gk := List.getElem?_eq_getElem (show k < o.length by rw [hc.len]; exact (List.getElem?_eq_some_iff.1 hz).1)
      have bk := hc.bd k z _ hz gk
      rw [bump_get, bump_get, gk] at hw
      simp only [Option.map_some, Option.some.injEq] at hw
      subst hw
      by_cases e1 : i = k
      · subst e1
        rw [if_pos rfl, if_neg (Ne.symm hij)]
        omega
      · rw [if_neg e1]
        by_cases e2 : j = k
        · subst e2
          rw [if_pos rfl]
          omega
        · rw [if_neg e2]; exact bk
    · rw [net_bump v _ _ j _ (salOf c y) (sals_get hj) (by omega), net_bump v _ _ i _ (salOf c x) (sals_get hi) (by rw [hc.len]; exact li), hc.gets v]
      have e1 : (salOf c y).b = (salOf c x).s := by show (houseI c y.buyer).toNat = (houseI c x.seller).toNat; rw [h2]
      have e2 : (salOf c y).s = (salOf c x).b := by show (houseI c y.seller).toNat = (houseI c x.buyer).toNat; rw [h1]
      rw [e1, e2]
      omega
  have := (close_least hR hN ho hm).1
  rw [sumI_bump _ _ _ (by omega), sumI_bump _ _ _ (by rw [hc.len]; exact li)] at this
  omega

/-! A number that no sale has. -/
def freeTo : List Sale → Int → Int
  | [], n => n
  | x :: l, n => freeTo l (if x.number = n then n + 1 else n)
theorem rising_cons {last n : Int} {l : List Int} : risingB last (n :: l) = true ↔ (last < n ∧ n ≤ 9999) ∧ risingB n l = true := by
  rw [risingB, Bool.and_eq_true, inB_iff]
  constructor
  · rintro ⟨⟨a, b⟩, h⟩; exact ⟨⟨by omega, b⟩, h⟩
  · rintro ⟨⟨a, b⟩, h⟩; exact ⟨⟨by omega, b⟩, h⟩
theorem free_above : ∀ {l : List Sale} {n : Int}, (∀ x ∈ l, n < x.number) → freeTo l n = n
  | [], _, _ => rfl
  | x :: l, n, h => by
    have := h x (by simp)
    rw [freeTo, if_neg (by omega)]
    exact free_above fun y hy => h y (by simp [hy])
theorem free_ok : ∀ {l : List Sale} {last n : Int}, risingB last (l.map (·.number)) = true → n = last + 1 → n ≤ freeTo l n ∧ freeTo l n ≤ n + l.length ∧ ∀ x ∈ l, x.number ≠ freeTo l n
  | [], _, n, _, _ => ⟨Int.le_refl _, by simp [freeTo], fun x hx => by cases hx⟩
  | x :: l, last, n, h, hn => by
    rw [List.map_cons, rising_cons] at h
    obtain ⟨⟨h1, h2⟩, h3⟩ := h
    rw [freeTo]
    by_cases e : x.number = n
    · rw [if_pos e]
      obtain ⟨i1, i2, i3⟩ := free_ok h3 (n := n + 1) (by omega)
      refine ⟨by omega, by simp only [List.length_cons]; omega, fun y hy => ?_⟩
      rcases List.mem_cons.1 hy with rfl | hy
      · omega
      · exact i3 y hy
    · rw [if_neg e]
      have ab : ∀ y ∈ l, n < y.number := fun y hy => by
        have := (rising_gt h3 y.number (List.mem_map_of_mem hy)).1
        omega
      rw [free_above ab]
      refine ⟨Int.le_refl _, by simp only [List.length_cons]; omega, fun y hy => ?_⟩
      rcases List.mem_cons.1 hy with rfl | hy
      · exact e
      · have := ab y hy; omega
theorem ins_rising {x : Sale} : ∀ {l : List Sale} {last : Int}, risingB last (l.map (·.number)) = true → last < x.number → x.number ≤ 9999 → (∀ y ∈ l, y.number ≠ x.number) → risingB last ((l.take (posL l x.number) ++ x :: l.drop (posL l x.number)).map (·.number)) = true
  | [], last, _, h1, h2, _ => by
    show risingB last [x.number] = true
    rw [rising_cons]
    exact ⟨⟨h1, h2⟩, rfl⟩
  | y :: l, last, h, h1, h2, h3 => by
    rw [List.map_cons, rising_cons] at h
    obtain ⟨⟨a1, a2⟩, a3⟩ := h
    have hy := h3 y (by simp)
    by_cases e : y.number < x.number
    · have hp : posL (y :: l) x.number = posL l x.number + 1 := by
        unfold posL
        rw [List.takeWhile_cons, if_pos (by simpa using e)]
        rfl
      rw [hp, List.take_succ_cons, List.drop_succ_cons, List.cons_append, List.map_cons, rising_cons]
      exact ⟨⟨a1, a2⟩, ins_rising a3 e h2 fun z hz => h3 z (by simp [hz])⟩
    · have hp : posL (y :: l) x.number = 0 := by
        unfold posL
        rw [List.takeWhile_cons, if_neg (by simpa using e)]
        rfl
      rw [hp, List.take_zero, List.drop_zero, List.nil_append, List.map_cons, rising_cons, List.map_cons, rising_cons]
      exact ⟨⟨h1, h2⟩, ⟨by omega, a2⟩, a3⟩
/-- A sale can be put: the chain with it is right. -/
theorem with_right {c : Chn} (h : rightP c = true) {x : Sale} (hn : 0 < x.number ∧ x.number ≤ 9999) (hf : ∀ y ∈ c.sales, y.number ≠ x.number) (hb : badS c.houses x = false) : rightP (withC c x) = true := by
  have hR := right_of h
  unfold rightP at h ⊢
  simp only [Bool.and_eq_true, Bool.not_eq_true', decide_eq_true_eq] at h ⊢
  obtain ⟨⟨⟨h1, h2⟩, h3⟩, h4⟩ := h
  refine ⟨⟨⟨h1, h2⟩, ins_rising h3 hn.1 hn.2 hf⟩, ?_⟩
  have e : (withC c x).sales.any (badS c.houses) = (c.sales.any (badS c.houses) || badS c.houses x) := by
    have := List.take_append_drop (posL c.sales x.number) c.sales
    unfold withC
    rw [List.any_append, List.any_cons]
    conv => rhs; rw [← this, List.any_append]
    cases (List.take (posL c.sales x.number) c.sales).any (badS c.houses) <;> cases badS c.houses x <;> simp
  show (withC c x).sales.any (badS c.houses) = false
  rw [e, h4, hb]
  rfl
theorem with_mem (c : Chn) (x : Sale) : x ∈ (withC c x).sales := by simp [withC]
theorem mem_with {c : Chn} {x y : Sale} (h : y ∈ c.sales) : y ∈ (withC c x).sales := by
  have := List.take_append_drop (posL c.sales x.number) c.sales
  rw [← this] at h
  simp only [withC, List.mem_append, List.mem_cons] at h ⊢
  rcases h with h | h
  · exact .inl h
  · exact .inr (.inr h)
end Go.Proofs.YtafdbgielmlihaaDoor
/- ChainStruck, plain: a sale that is struck and put again; what is owed where a house stopped. -/
namespace Go.Proofs.YtafdbgielmlihaaDoor
open Go.RowKit Go.Shelf
set_option linter.unusedSimpArgs false

theorem hasI_one (n k : Int) : hasI [n] k = decide (k = n) := by simp [hasI]
theorem struck_list : ∀ {l : List Sale} {last : Int} {i : Nat} {x : Sale}, risingB last (l.map (·.number)) = true → l[i]? = some x →
    l.filter (fun z => !hasI [x.number] z.number) = l.take i ++ l.drop (i + 1) ∧ posL (l.take i ++ l.drop (i + 1)) x.number = i
  | z :: l, last, 0, x, h, hx => by
    simp at hx
    subst hx
    rw [List.map_cons, rising_cons] at h
    have ab : ∀ y ∈ l, z.number < y.number := fun y hy => (rising_gt h.2 y.number (List.mem_map_of_mem hy)).1
    have e1 : l.filter (fun y => !hasI [z.number] y.number) = l := List.filter_eq_self.2 fun y hy => by
      rw [hasI_one, Bool.not_eq_true', decide_eq_false_iff_not]
      have := ab y hy
      omega
    refine ⟨?_, ?_⟩
    · rw [List.filter_cons, if_neg (by rw [hasI_one]; simp), e1]
      simp
    · unfold posL
      cases l with
      | nil => rfl
      | cons y l =>
        have := ab y (by simp)
        simp only [List.take_zero, List.nil_append, List.drop_succ_cons, List.drop_zero]
        rw [List.takeWhile_cons, if_neg (by simp; omega)]
        rfl
  | z :: l, last, i + 1, x, h, hx => by
    rw [List.map_cons, rising_cons] at h
    have hx' : l[i]? = some x := by simpa using hx
    have lt := (rising_gt h.2 x.number (List.mem_map_of_mem (List.mem_of_getElem? hx'))).1
    obtain ⟨i1, i2⟩ := struck_list h.2 hx'
    refine ⟨?_, ?_⟩
    · rw [List.filter_cons, if_pos (by rw [hasI_one, Bool.not_eq_true', decide_eq_false_iff_not]; omega), i1, List.take_succ_cons, List.drop_succ_cons, List.cons_append]
    · rw [List.take_succ_cons, List.drop_succ_cons, List.cons_append]
      unfold posL at i2 ⊢
      rw [List.takeWhile_cons, if_pos (by simpa using lt), List.length_cons, i2]
  | [], _, _, _, _, hx => by simp at hx
theorem rising_less : ∀ {l : List Sale} {last : Int} (p : Sale → Bool), risingB last (l.map (·.number)) = true → ∀ {b : Int}, b ≤ last → risingB b ((l.filter p).map (·.number)) = true
  | [], _, _, _, _, _ => rfl
  | x :: l, last, p, h, b, hb => by
    rw [List.map_cons, rising_cons] at h
    obtain ⟨⟨h1, h2⟩, h3⟩ := h
    rw [List.filter_cons]
    split
    · rw [List.map_cons, rising_cons]
      exact ⟨⟨by omega, h2⟩, rising_less p h3 (Int.le_refl _)⟩
    · exact rising_less p h3 (by omega)
theorem less_check {c : Chn} (h : checkP c = true) (p : Sale → Bool) : checkP (lessC c p) = true := by
  unfold checkP rightP at h ⊢
  simp only [Bool.and_eq_true, Bool.not_eq_true', decide_eq_true_eq] at h ⊢
  obtain ⟨h0, ⟨⟨h1, h2⟩, h3⟩, h4⟩ := h
  refine ⟨Nat.le_trans (List.length_filter_le _ _) h0, ⟨⟨h1, h2⟩, rising_less _ h3 (Int.le_refl _)⟩, ?_⟩
  rw [List.any_eq_false] at h4 ⊢
  intro x hx
  exact h4 x (List.mem_filter.1 hx).1
theorem struck_back {c : Chn} (h : checkP c = true) {i : Nat} {x : Sale} (hx : c.sales[i]? = some x) :
    strikeE c [x.number] = 0 ∧ putE (strikeC c [x.number]) x = 0 ∧ putC (strikeC c [x.number]) x = c ∧ (strikeC c [x.number]).sales.length + 1 = c.sales.length := by
  obtain ⟨hR, hN⟩ := check_right h
  have hi := (List.getElem?_eq_some_iff.1 hx).1
  have e0 : strikeE c [x.number] = 0 := by
    unfold strikeE
    rw [if_pos h, if_pos]
    have h1 := (rising_gt hR.sr x.number (List.mem_map_of_mem (List.mem_of_getElem? hx))).1
    have h2 : hasI (c.sales.map (·.number)) x.number = true := hasI_iff.2 (List.mem_map_of_mem (List.mem_of_getElem? hx))
    simp only [okL, h2, Bool.and_true, decide_eq_true_eq]
    exact h1
  obtain ⟨i1, i2⟩ := struck_list hR.sr hx
  have ec : strikeC c [x.number] = lessC c (fun z => hasI [x.number] z.number) := by unfold strikeC; rw [if_pos e0]
  have es : (strikeC c [x.number]).sales = c.sales.take i ++ c.sales.drop (i + 1) := by rw [ec]; exact i1
  have el : (strikeC c [x.number]).sales.length + 1 = c.sales.length := by
    rw [es, List.length_append, List.length_take, List.length_drop]
    omega
  have ew : withC (strikeC c [x.number]) x = c := by
    have eh : (strikeC c [x.number]).houses = c.houses := by rw [ec]; rfl
    have hx2 : c.sales[i] = x := (List.getElem?_eq_some_iff.1 hx).2
    unfold withC
    rw [eh, es, i2]
    have t1 : (c.sales.take i ++ c.sales.drop (i + 1)).take i = c.sales.take i := by
      rw [List.take_append_of_le_length (by rw [List.length_take]; omega), List.take_take, Nat.min_self]
    have t2 : (c.sales.take i ++ c.sales.drop (i + 1)).drop i = c.sales.drop (i + 1) := by
      rw [List.drop_append, List.drop_of_length_le (by rw [List.length_take]; omega), List.length_take, Nat.min_eq_left (by omega), Nat.sub_self, List.drop_zero, List.nil_append]
    rw [t1, t2, ← hx2, ← List.drop_eq_getElem_cons hi, List.take_append_drop]
  have ep : putE (strikeC c [x.number]) x = 0 := by
    unfold putE
    rw [if_pos (by rw [ec]; exact less_check h _), if_neg (by omega), ew, if_pos]
    unfold checkP at h
    rw [Bool.and_eq_true] at h
    exact h.2
  exact ⟨e0, ep, by unfold putC; rw [if_pos ep, ew], el⟩

/-! What is owed where a house stopped. -/
def netB (c : Chn) (L : List Sale) (v : Nat) : Int := net (L.map (salOf c)) (L.map (·.bales)) v
theorem netB_cons (c : Chn) (x : Sale) (L : List Sale) (v : Nat) : netB c (x :: L) v = x.bales * (one ((houseI c x.buyer).toNat = v) - one ((houseI c x.seller).toNat = v)) + netB c L v := rfl
theorem netB_split (c : Chn) (p : Sale → Bool) (v : Nat) : ∀ L : List Sale, netB c L v = netB c (L.filter p) v + netB c (L.filter fun x => !p x) v
  | [] => rfl
  | x :: L => by
    have ih := netB_split c p v L
    rw [netB_cons, List.filter_cons, List.filter_cons]
    cases hp : p x with
    | true =>
      rw [if_pos rfl, if_neg (by simp), netB_cons]
      omega
    | false =>
      rw [if_neg (by simp), if_pos (by rfl), netB_cons]
      omega
def backX (c : Chn) (h : Int) (b : List Int) (x : Sale) : List Int := if soldBy h x then bump (bump b (houseI c x.seller).toNat x.bales) (houseI c x.buyer).toNat (-x.bales) else b
def backL (c : Chn) (h : Int) (L : List Sale) (b : List Int) : List Int := L.foldl (backX c h) b
theorem backX_len (c : Chn) (h : Int) (b : List Int) (x : Sale) : (backX c h b x).length = b.length := by
  unfold backX; split
  · rw [bump_len, bump_len]
  · rfl
theorem backL_len (c : Chn) (h : Int) : ∀ (L : List Sale) (b : List Int), (backL c h L b).length = b.length
  | [], _ => rfl
  | x :: L, b => by
    show (backL c h L (backX c h b x)).length = _
    rw [backL_len c h L, backX_len]
theorem backL_get (c : Chn) (h : Int) (v : Nat) : ∀ (L : List Sale) (b : List Int) (y : Int), b[v]? = some y → (backL c h L b)[v]? = some (y - netB c (L.filter (soldBy h)) v)
  | [], b, y, hy => by
    show b[v]? = some (y - 0)
    rw [hy]; simp
  | x :: L, b, y, hy => by
    show (backL c h L (backX c h b x))[v]? = _
    unfold backX
    rw [List.filter_cons]
    cases hs : soldBy h x with
    | true =>
      rw [if_pos rfl, if_pos rfl, netB_cons]
      have e : (bump (bump b (houseI c x.seller).toNat x.bales) (houseI c x.buyer).toNat (-x.bales))[v]? = some (y - x.bales * (one ((houseI c x.buyer).toNat = v) - one ((houseI c x.seller).toNat = v))) := by
        rw [bump_get, bump_get, hy]
        simp only [Option.map_some, Option.some.injEq]
        unfold one
        split <;> split <;> simp <;> omega
      rw [backL_get c h v L _ _ e]
      congr 1
      omega
    | false =>
      rw [if_neg (by simp), if_neg (by simp)]
      exact backL_get c h v L b y hy
theorem owed_eq {c : Chn} (h : checkP c = true) : owedL c = (List.range c.houses.length).map fun v => netB c c.sales v := by
  unfold owedL
  rw [if_pos h]
  rfl
theorem stop_owed {c : Chn} (h : checkP c = true) (id : Int) : backL c id c.sales (owedL c) = (List.range c.houses.length).map fun v => netB c (c.sales.filter fun x => !soldBy id x) v := by
  have hl : (backL c id c.sales (owedL c)).length = c.houses.length := by rw [backL_len, owed_eq h]; simp
  apply List.ext_getElem?
  intro v
  by_cases hv : v < c.houses.length
  · rw [backL_get c id v c.sales (owedL c) (netB c c.sales v) (by rw [owed_eq h]; simp [hv])]
    have := netB_split c (soldBy id) v c.sales
    rw [List.getElem?_map, List.getElem?_range hv]
    simp only [Option.map_some]
    congr 1
    omega
  · rw [List.getElem?_eq_none (by omega), List.getElem?_eq_none (by simp; omega)]
theorem owed_stop {c : Chn} (h : checkP c = true) {id : Int} (hi : id ∈ c.houses) : stopE c id = 0 ∧ (stopC c id).houses = c.houses ∧ owedL (stopC c id) = backL c id c.sales (owedL c) := by
  have e0 : stopE c id = 0 := by unfold stopE; rw [if_pos h, if_pos (hasI_iff.2 hi)]
  have ec : stopC c id = lessC c (soldBy id) := by unfold stopC; rw [if_pos e0]
  refine ⟨e0, by rw [ec]; rfl, ?_⟩
  rw [stop_owed h, ec, owed_eq (less_check h _)]
  rfl
theorem stop_zero {c : Chn} (h : checkP c = true) {id : Int} {i : Nat} (hi : c.houses[i]? = some id) : (backL c id c.sales (owedL c))[i]? = some 0 := by
  have hlt := (List.getElem?_eq_some_iff.1 hi).1
  have hR := (check_right h).1
  rw [stop_owed h, List.getElem?_map, List.getElem?_range hlt]
  simp only [Option.map_some, Option.some.injEq]
  have key : ∀ L : List Sale, (∀ x ∈ L, x ∈ c.sales ∧ soldBy id x = false) → netB c L i = 0 := by
    intro L
    induction L with
    | nil => intro _; rfl
    | cons x L ih =>
      intro hL
      obtain ⟨m1, m2⟩ := hL x (by simp)
      obtain ⟨-, g1, g2, -⟩ := hR.sale x m1
      have hs : x.seller ≠ id ∧ x.buyer ≠ id := by
        unfold soldBy at m2
        simpa using m2
      have ne : ∀ a, a ∈ c.houses → a ≠ id → (houseI c a).toNat ≠ i := by
        intro a ha hne e
        obtain ⟨b1, b2⟩ := houseI_lt ha
        unfold houseI at e b1
        obtain ⟨k, z, hk, hz, hp⟩ := idxZ_pos b1
        rw [hk] at e
        have : k = i := by omega
        subst this
        rw [hi] at hz
        injection hz with hz
        have := of_decide_eq_true hp
        exact hne (by rw [← this, ← hz])
      rw [netB_cons, ih fun y hy => hL y (by simp [hy])]
      unfold one
      rw [if_neg (ne _ g2 hs.2), if_neg (ne _ g1 hs.1)]
      simp
  exact key _ fun x hx => by
    obtain ⟨h1, h2⟩ := List.mem_filter.1 hx
    exact ⟨h1, by simpa using h2⟩
end Go.Proofs.YtafdbgielmlihaaDoor
/- What the houses are owed, in new memory. -/
namespace Go.Proofs.YtafdbgielmlihaaDoor
open Go.RowKit Go.Shelf Go.Lib
set_option maxRecDepth 100000
set_option linter.unusedSimpArgs false

set_option maxHeartbeats 1000000 in
theorem owed_own (c : Chn) (hc : checkP c = true) (hv sv : Value) (w : World) (hT : Tab w) (hh : SlI w hv c.houses) (hs : SlL w sv c.sales) :
    Calls Tryd.prog 20 #[valC hv sv] w fun e w' => (∃ g, e = .returned (.tuple #[.slice (some ⟨g, 0, none⟩) c.houses.length c.houses.length, .int .i64 0]) ∧ w.heap.size ≤ g ∧ RowI w' g (getsL c (balesOf c))) ∧ Ext w w' := by
  have hl : c.sales.length ≤ 1000 := by have := (check_right hc).2; omega
  have HT := Lib.hid hT; have HH := Lib.hid hh; have HS := Lib.hid hs; have HL := Lib.hid hl
  obtain ⟨A, n, cp, rfl, -, -, -⟩ := hh.form
  obtain ⟨A2, n2, cp2, rfl, -, -, -⟩ := hs.form
  clear hh hs hT hl
  go_enter Tryd.func20, Tryd.ntmps20
  have B0 := Lib.hid (show Blk (w.alloc (.cells #[.slice A n cp, .slice A2 n2 cp2] 25)) w.heap.size 25 #[.slice A n cp, .slice A2 n2 cp2] from Blk.new _ _ _)
  go_wp2_with fail
  refine (check_any c _ _ _ (HT.out.ext (Ext.al _ _)) (HH.out.ext (Ext.al _ _)) (HS.out.ext (Ext.al _ _)) HL.out).mono ?_
  rintro e w1 ⟨rfl, hE⟩
  have E1 := Lib.hid ((Ext.al w _).trans hE)
  have B1 := Lib.hid (B0.out.ext hE)
  clear hE
  have HGL := Lib.hid (show (getsL c (balesOf c)).length = c.houses.length by simp [getsL])
  have HR := Lib.hid (check_right hc).1
  have HS10 := Lib.hid (check_right hc).2
  have HCK := Lib.hid hc
  clear hc
  rw [HCK.out]
  dsimp only [errB]
  have m0 := fun W (h : Ext w1 W) => (B1.out.ext h).c2
  go_wp2
  refine wp_region_tame (fun W => Ext w1 W) (fun W W' => Ext W W') (by kernel_rfl) 16 rfl (by decide +kernel) (Ext.refl _).drew ?_
  repeat (apply tame_q rfl; (intro ρ W hC hr hD; (obtain ⟨hrc, hrg, hrf, hrs⟩ := hr); (simp [go_sem] at hD); go_simp; first | exact ⟨⟨hC, Ext.refl _⟩, rfl⟩ | exact ⟨⟨hC, RS.refl _⟩, rfl⟩ | exact rfl); simp only [List.nil_append, List.cons_append])
  apply tame_v rfl (FreshM w1.heap.size (.slice A n cp) (.slice A2 n2 cp2)) (fun v W W' _ hE h => h.ext hE)
  · intro ρ W hC hr hD
    obtain ⟨hrc, hrg, hrf, hrs⟩ := hr
    simp [go_sem] at hD
    go_simp
    exact ⟨⟨hC.alloc _, Ext.al _ _⟩, ⟨_, rfl, hC.size, Blk.new _ _ _⟩⟩
  simp only [List.nil_append, List.cons_append]
  repeat (apply tame_q rfl; (intro ρ W hC hr hD; (obtain ⟨hrc, hrg, hrf, hrs⟩ := hr); (simp [go_sem] at hD); go_simp; first | exact ⟨⟨hC, Ext.refl _⟩, rfl⟩ | exact ⟨⟨hC, RS.refl _⟩, rfl⟩ | exact rfl); simp only [List.nil_append, List.cons_append])
  apply tame_v rfl (fun v W => SlI W v (balesOf c)) (fun v W W' _ hE h => h.ext hE)
  · intro ρ W hC hr hD
    obtain ⟨hrc, hrg, hrf, hrs⟩ := hr
    simp [go_sem] at hD
    go_simp
    refine (f72_any c _ _ W (HH.out.ext (E1.out.trans hC)) (HS.out.ext (E1.out.trans hC)) (by have := HS10.out; omega)).mono ?_
    rintro e w' ⟨⟨v', rfl, ho⟩, hE⟩
    exact ⟨_, rfl, ⟨hC.trans hE, hE⟩, ho.sl (fun _ => rfl)⟩
  simp only [List.nil_append, List.cons_append]
  apply tame_v rfl (RowV w1.heap.size (getsL c (balesOf c))) (fun v W W' _ hE h => h.ext hE)
  · intro ρ W hC hr hD
    obtain ⟨hrc, hrg, hrf, hrs⟩ := hr
    simp [go_sem] at hD
    obtain ⟨⟨mb, d1, d2, d3⟩, d4⟩ := hD
    have hz := hC.size
    clear m0
    go_simp
    refine (mgets_any c (balesOf c) mb _ _ _ _ _ W d3 (HH.out.ext (E1.out.trans hC)) (HS.out.ext (E1.out.trans hC)) d4 HR.out (by have := HS10.out; omega) (bales_len c) (bales_bd HR.out)).mono ?_
    rintro e w' ⟨⟨g, rfl, hg, hr⟩, hE⟩
    exact ⟨_, rfl, ⟨hC.trans hE, hE⟩, ⟨g, rfl, by omega, hr⟩⟩
  simp only [List.nil_append, List.cons_append]
  apply tame_v rfl (RowV w1.heap.size (getsL c (balesOf c))) (fun v W W' _ hE h => h.ext hE)
  · intro ρ W hC hr hD
    obtain ⟨hrc, hrg, hrf, hrs⟩ := hr
    simp [go_sem] at hD
    go_simp
    exact ⟨hC, Ext.refl _⟩
  simp only [List.nil_append, List.cons_append]
  repeat (apply tame_q rfl; (intro ρ W hC hr hD; (obtain ⟨hrc, hrg, hrf, hrs⟩ := hr); (simp [go_sem] at hD); go_simp; first | exact ⟨⟨hC, Ext.refl _⟩, rfl⟩ | exact ⟨⟨hC, RS.refl _⟩, rfl⟩ | exact rfl); simp only [List.nil_append, List.cons_append])
  refine tame_end_put rfl rfl (fun ρ W hC hr hF => ?_)
  simp [go_sem] at hF
  obtain ⟨f1, f2, -, f4, -, -, ⟨g, f7, hgb, hRL⟩, f8⟩ := hF
  simp only [putF, f1, f2, f4, f7, f8, List.set_cons_succ, List.set_cons_zero]
  generalize ρ (Operand.tmp 12) = v12
  generalize ρ (Operand.tmp 14) = v14
  generalize ρ (Operand.tmp 15) = v15
  have EW := Lib.hid (E1.out.trans hC)
  have hz1 := E1.out.size
  have RL := Lib.hid hRL
  clear f1 f2 f4 f7 f8 hr hC hRL m0
  have h6 := HR.out.h6
  go_wp2
  go_ret2
  exact ⟨⟨g, by rw [HGL.out]; rfl, by omega, RL.out⟩, EW.out⟩
end Go.Proofs.YtafdbgielmlihaaDoor
