/- The plain data of the layer chain: chains, sales, what is handed; what is asked of them: no program in sight. -/
import Derived.Test.YtafdbgielmlihaaDoorCoreA
namespace Go.Proofs.YtafdbgielmlihaaDoor
open Go.RowKit Go.Shelf

structure Span where
  lo : Int
  hi : Int
structure Sale where
  number : Int
  seller : Int
  buyer : Int
  bales : Int
  price : Int
structure Handed where
  src : Int
  dest : Int
  bales : Int
structure Chn where
  houses : List Int
  sales : List Sale

abbrev encS (s : Span) : List Value := [.int .i64 s.lo, .int .i64 s.hi]
abbrev encL (x : Sale) : List Value := [.int .i64 x.number, .int .i64 x.seller, .int .i64 x.buyer, .int .i64 x.bales, .int .i64 x.price]
abbrev encH (x : Handed) : List Value := [.int .i64 x.src, .int .i64 x.dest, .int .i64 x.bales]
abbrev valS (s : Span) : Value := .agg #[.int .i64 s.lo, .int .i64 s.hi]
abbrev valL (x : Sale) : Value := .agg #[.int .i64 x.number, .int .i64 x.seller, .int .i64 x.buyer, .int .i64 x.bales, .int .i64 x.price]
abbrev valC (hv sv : Value) : Value := .agg #[hv, sv]
abbrev SlS (w : World) (v : Value) (l : List Span) : Prop := Sl encS 2 w v l
abbrev SlL (w : World) (v : Value) (l : List Sale) : Prop := Sl encL 5 w v l
abbrev SlH (w : World) (v : Value) (l : List Handed) : Prop := Sl encH 3 w v l
theorem SlS.cells {w W : World} {b off k : Nat} {x : Span} (h : ∀ W, Ext w W → ∀ j u, (encS x)[j]? = some u → W.cell? ⟨b, off + k * 2 + j, none⟩ = some u) (hW : Ext w W) :
    W.cell? ⟨b, off + k * 2, none⟩ = some (.int .i64 x.lo) ∧ W.cell? ⟨b, off + k * 2 + 1, none⟩ = some (.int .i64 x.hi) :=
  ⟨by simpa using h W hW 0 _ rfl, h W hW 1 _ rfl⟩
theorem SlL.cells {w W : World} {b off k : Nat} {x : Sale} (h : ∀ W, Ext w W → ∀ j u, (encL x)[j]? = some u → W.cell? ⟨b, off + k * 5 + j, none⟩ = some u) (hW : Ext w W) :
    W.cell? ⟨b, off + k * 5, none⟩ = some (.int .i64 x.number) ∧ W.cell? ⟨b, off + k * 5 + 1, none⟩ = some (.int .i64 x.seller) ∧ W.cell? ⟨b, off + k * 5 + 2, none⟩ = some (.int .i64 x.buyer) ∧ W.cell? ⟨b, off + k * 5 + 3, none⟩ = some (.int .i64 x.bales) ∧ W.cell? ⟨b, off + k * 5 + 4, none⟩ = some (.int .i64 x.price) :=
  ⟨by simpa using h W hW 0 _ rfl, h W hW 1 _ rfl, h W hW 2 _ rfl, h W hW 3 _ rfl, h W hW 4 _ rfl⟩
theorem SlH.cells {w W : World} {b off k : Nat} {x : Handed} (h : ∀ W, Ext w W → ∀ j u, (encH x)[j]? = some u → W.cell? ⟨b, off + k * 3 + j, none⟩ = some u) (hW : Ext w W) :
    W.cell? ⟨b, off + k * 3, none⟩ = some (.int .i64 x.src) ∧ W.cell? ⟨b, off + k * 3 + 1, none⟩ = some (.int .i64 x.dest) ∧ W.cell? ⟨b, off + k * 3 + 2, none⟩ = some (.int .i64 x.bales) :=
  ⟨by simpa using h W hW 0 _ rfl, h W hW 1 _ rfl, h W hW 2 _ rfl⟩

/-! What is asked. -/
def hasI (l : List Int) (x : Int) : Bool := l.any fun y => decide (x = y)
/-- A sale that cannot be. -/
def badS (H : List Int) (x : Sale) : Bool := decide (x.seller = x.buyer) || !hasI H x.seller || !hasI H x.buyer || !inB 1 9 x.bales || !inB 0 1000000 x.price
def rightP (c : Chn) : Bool := (decide (c.houses.length ≤ 6) && risingB 0 c.houses && risingB 0 (c.sales.map (·.number))) && !(c.sales.any (badS c.houses))
def checkP (c : Chn) : Bool := decide (c.sales.length ≤ 10) && rightP c
/-- The place of a house, of a sale. -/
def houseI (c : Chn) (id : Int) : Int := idxF (fun h => decide (h = id)) c.houses
def saleI (c : Chn) (n : Int) : Int := idxF (fun x : Sale => decide (x.number = n)) c.sales
def saleR (c : Chn) (last : Int) (x : Sale) : Bool := ((((inB (last + 1) 9999 x.number && decide (0 ≤ houseI c x.seller)) && decide (0 ≤ houseI c x.buyer)) && !decide (x.seller = x.buyer)) && inB 1 9 x.bales) && inB 0 1000000 x.price
def salesR (c : Chn) : Int → List Sale → Bool
  | _, [] => true
  | last, x :: l => saleR c last x && salesR c x.number l
def chainedR (c : Chn) : Bool := (decide (c.houses.length ≤ 6) && risingB 0 c.houses) && salesR c 0 c.sales
def chainR (c : Chn) : Bool := decide (c.sales.length ≤ 10) && chainedR c

theorem hasI_idx (l : List Int) (x : Int) : decide (0 ≤ idxF (fun h => decide (h = x)) l) = hasI l x := by
  rw [idxF_any]
  unfold hasI
  congr 1
  funext y
  exact decide_eq_decide.2 eq_comm
theorem salesR_eq (c : Chn) : ∀ (l : List Sale) (last : Int), salesR c last l = (risingB last (l.map (·.number)) && !(l.any (badS c.houses)))
  | [], _ => rfl
  | x :: l, last => by
    have e1 : decide (0 ≤ houseI c x.seller) = hasI c.houses x.seller := hasI_idx _ _
    have e2 : decide (0 ≤ houseI c x.buyer) = hasI c.houses x.buyer := hasI_idx _ _
    have e3 : badS c.houses x = (decide (x.seller = x.buyer) || !hasI c.houses x.seller || !hasI c.houses x.buyer || !inB 1 9 x.bales || !inB 0 1000000 x.price) := rfl
    simp only [salesR, saleR, List.map_cons, risingB, List.any_cons, salesR_eq c l]
    rw [e1, e2, e3]
    generalize inB (last + 1) 9999 x.number = a
    generalize hasI c.houses x.seller = b
    generalize hasI c.houses x.buyer = d
    generalize decide (x.seller = x.buyer) = e
    generalize inB 1 9 x.bales = f
    generalize inB 0 1000000 x.price = g
    generalize risingB x.number (l.map (·.number)) = h
    generalize l.any (badS c.houses) = i
    cases a <;> cases b <;> cases d <;> cases e <;> cases f <;> cases g <;> cases h <;> cases i <;> rfl
theorem chained_eq (c : Chn) : chainedR c = rightP c := by
  unfold chainedR rightP
  rw [salesR_eq, Bool.and_assoc, Bool.and_assoc, Bool.and_assoc]
theorem chain_eq (c : Chn) : chainR c = checkP c := by unfold chainR checkP; rw [chained_eq]

/-- What a right chain is good for. -/
structure Right (c : Chn) : Prop where
  h6 : c.houses.length ≤ 6
  hr : risingB 0 c.houses = true
  sr : risingB 0 (c.sales.map (·.number)) = true
  sale : ∀ x ∈ c.sales, x.seller ≠ x.buyer ∧ x.seller ∈ c.houses ∧ x.buyer ∈ c.houses ∧ (1 ≤ x.bales ∧ x.bales ≤ 9) ∧ (0 ≤ x.price ∧ x.price ≤ 1000000)
theorem inB_iff {lo hi n : Int} : inB lo hi n = true ↔ lo ≤ n ∧ n ≤ hi := by unfold inB; simp
theorem hasI_iff {l : List Int} {x : Int} : hasI l x = true ↔ x ∈ l := by
  unfold hasI
  rw [List.any_eq_true]
  constructor
  · rintro ⟨y, hy, h⟩; simp at h; subst h; exact hy
  · intro h; exact ⟨x, h, by simp⟩
theorem right_of {c : Chn} (h : rightP c = true) : Right c := by
  unfold rightP at h
  simp only [Bool.and_eq_true, decide_eq_true_eq, Bool.not_eq_true', List.any_eq_false] at h
  obtain ⟨⟨⟨h1, h2⟩, h3⟩, h4⟩ := h
  refine ⟨h1, h2, h3, fun x hx => ?_⟩
  have := h4 x hx
  simp only [badS, Bool.or_eq_true, not_or, decide_eq_true_eq, Bool.not_eq_true, Bool.not_eq_false'] at this
  obtain ⟨⟨⟨⟨a, b⟩, d⟩, e⟩, f⟩ := this
  exact ⟨a, hasI_iff.1 b, hasI_iff.1 d, inB_iff.1 e, inB_iff.1 f⟩
theorem check_right {c : Chn} (h : checkP c = true) : Right c ∧ c.sales.length ≤ 10 := by
  unfold checkP at h
  simp only [Bool.and_eq_true, decide_eq_true_eq] at h
  exact ⟨right_of h.2, h.1⟩
theorem rising_gt : ∀ {l : List Int} {last : Int}, risingB last l = true → ∀ x ∈ l, last < x ∧ x ≤ 9999
  | [], _, _, x, hx => by cases hx
  | y :: l, last, h, x, hx => by
    unfold risingB at h
    simp only [Bool.and_eq_true] at h
    have h1 := inB_iff.1 h.1
    rcases List.mem_cons.1 hx with rfl | hx
    · omega
    · have := rising_gt h.2 x hx; omega
theorem rising_pair : ∀ {l : List Int} {last : Int}, risingB last l = true → l.Pairwise (· < ·)
  | [], _, _ => List.Pairwise.nil
  | y :: l, last, h => by
    unfold risingB at h
    simp only [Bool.and_eq_true] at h
    exact List.Pairwise.cons (fun z hz => (rising_gt h.2 z hz).1) (rising_pair h.2)
end Go.Proofs.YtafdbgielmlihaaDoor
