/- Pays, Loses, Worst, plain. -/
import Derived.Test.YtafdbgielmlihaaDoorPkChTellsCardN
import Derived.Test.YtafdbgielmlihaaDoorPkChHandsCardB
namespace Go.Proofs.YtafdbgielmlihaaDoor
open Go.RowKit Go.Shelf
set_option linter.unusedSimpArgs false

/-- What is paid for the bales of each sale that do not move, as numbers that a house gets less. -/
def payN (c : Chn) (l : List Int) (p : Int) : List Int := (c.sales.zip l).map fun q => -((q.1.price - p) * (q.1.bales - q.2))
def paysB (c : Chn) (p : Int) : Bool := checkP c && inB 0 1000000 p
def paysE (c : Chn) (p : Int) : Int := if checkP c then (if inB 0 1000000 p then 0 else 62) else 60
def paysL (c : Chn) (l : List Int) (p : Int) : List Int := if paysB c p then getsL c (payN c l p) else []
theorem payN_len {c : Chn} {l : List Int} (h : l.length = c.sales.length) (p : Int) : (payN c l p).length = c.sales.length := by
  unfold payN
  rw [List.length_map, List.length_zip, h, Nat.min_self]
theorem payN_get {c : Chn} {l : List Int} {p : Int} {k : Nat} {x : Sale} {y : Int} (hx : c.sales[k]? = some x) (hy : l[k]? = some y) : (payN c l p)[k]? = some (-((x.price - p) * (x.bales - y))) := by
  unfold payN
  rw [List.getElem?_map, (List.getElem?_zip_eq_some (z := (x, y))).2 ⟨hx, hy⟩]
  rfl
theorem mul_bd {a b A B : Int} (ha : -A ≤ a ∧ a ≤ A) (hb : 0 ≤ b ∧ b ≤ B) (hA : 0 ≤ A) : -(A * B) ≤ a * b ∧ a * b ≤ A * B := by
  have h1 : A * b ≤ A * B := Int.mul_le_mul_of_nonneg_left hb.2 hA
  have h2 : a * b ≤ A * b := Int.mul_le_mul_of_nonneg_right ha.2 hb.1
  have h3 : -A * b ≤ a * b := Int.mul_le_mul_of_nonneg_right ha.1 hb.1
  rw [Int.neg_mul] at h3
  omega
/-- What a house loses by a sale, if another one stops. -/
def claimX (h st p : Int) (x : Sale) : Int := if x.seller = st ∧ x.buyer = h then (p - x.price) * x.bales else if x.buyer = st ∧ x.seller = h then (x.price - p) * x.bales else 0
def claimTo (c : Chn) (h st p : Int) (k : Nat) : Int := ((c.sales.take k).map (claimX h st p)).foldl (· + ·) 0
def claimI (c : Chn) (h st p : Int) : Int := claimTo c h st p c.sales.length
theorem claimTo_succ {c : Chn} {h st p : Int} {k : Nat} {x : Sale} (hx : c.sales[k]? = some x) : claimTo c h st p (k + 1) = claimTo c h st p k + claimX h st p x := by
  unfold claimTo
  rw [List.take_add_one, hx, List.map_append, List.foldl_append]
  rfl
theorem claimX_bd {h st p : Int} {x : Sale} (hp : 0 ≤ p ∧ p ≤ 1000000) (hb : 1 ≤ x.bales ∧ x.bales ≤ 9) (hx : 0 ≤ x.price ∧ x.price ≤ 1000000) : -9000000 ≤ claimX h st p x ∧ claimX h st p x ≤ 9000000 := by
  have h1 := mul_bd (a := p - x.price) (b := x.bales) (A := 1000000) (B := 9) (by omega) (by omega) (by omega)
  have h2 := mul_bd (a := x.price - p) (b := x.bales) (A := 1000000) (B := 9) (by omega) (by omega) (by omega)
  unfold claimX
  split
  · omega
  · split <;> omega
theorem claimTo_bd {c : Chn} {h st p : Int} (hR : Right c) (hp : 0 ≤ p ∧ p ≤ 1000000) : ∀ k : Nat, -(9000000 * (k : Int)) ≤ claimTo c h st p k ∧ claimTo c h st p k ≤ 9000000 * (k : Int)
  | 0 => by simp [claimTo]
  | k + 1 => by
    have ih := claimTo_bd (h := h) (st := st) hR hp k
    cases hx : c.sales[k]? with
    | none =>
      have : claimTo c h st p (k + 1) = claimTo c h st p k := by
        unfold claimTo
        rw [List.take_add_one, hx]
        simp
      rw [this]
      omega
    | some x =>
      rw [claimTo_succ hx]
      obtain ⟨-, -, -, h1, h2⟩ := hR.sale x (List.mem_of_getElem? hx)
      have := claimX_bd (h := h) (st := st) hp h1 h2
      omega
theorem claimI_bd {c : Chn} {h st p : Int} (hR : Right c) (hN : c.sales.length ≤ 10) (hp : 0 ≤ p ∧ p ≤ 1000000) : -90000000 ≤ claimI c h st p ∧ claimI c h st p ≤ 90000000 := by
  have := claimTo_bd (h := h) (st := st) hR hp c.sales.length
  unfold claimI
  omega
/-- What each house loses. -/
def loseS (c : Chn) (st : Int) (s : Span) (h : Int) : Span := ⟨max 0 (min (claimI c h st s.lo) (claimI c h st s.hi)), max 0 (max (claimI c h st s.lo) (claimI c h st s.hi))⟩
def pricedB (s : Span) : Bool := inB 0 1000000 s.lo && inB s.lo 1000000 s.hi
def losesE (c : Chn) (st : Int) (s : Span) : Int := if checkP c then (if hasI c.houses st then (if pricedB s then 0 else 62) else 6) else 60
def losesAll (c : Chn) (st : Int) (s : Span) : List Span := c.houses.map (loseS c st s)
def losesL (c : Chn) (st : Int) (s : Span) : List Span := if losesE c st s = 0 then losesAll c st s else []
theorem loseS_bd {c : Chn} {st h : Int} {s : Span} (hR : Right c) (hN : c.sales.length ≤ 10) (hs : pricedB s = true) : 0 ≤ (loseS c st s h).hi ∧ (loseS c st s h).hi ≤ 90000000 := by
  unfold pricedB at hs
  rw [Bool.and_eq_true, inB_iff, inB_iff] at hs
  have h1 := claimI_bd (h := h) (st := st) (p := s.lo) hR hN (by omega)
  have h2 := claimI_bd (h := h) (st := st) (p := s.hi) hR hN (by omega)
  simp only [loseS]
  omega
/-- All that is lost together. -/
def hiTo (l : List Span) (k : Nat) : Int := ((l.take k).map (·.hi)).foldl (· + ·) 0
def hiI (l : List Span) : Int := hiTo l l.length
theorem hiTo_succ {l : List Span} {k : Nat} {x : Span} (hx : l[k]? = some x) : hiTo l (k + 1) = hiTo l k + x.hi := by
  unfold hiTo
  rw [List.take_add_one, hx, List.map_append, List.foldl_append]
  rfl
theorem hiTo_bd {l : List Span} {B : Int} (hB : 0 ≤ B) (h : ∀ x ∈ l, 0 ≤ x.hi ∧ x.hi ≤ B) : ∀ k : Nat, 0 ≤ hiTo l k ∧ hiTo l k ≤ B * k
  | 0 => by simp [hiTo]
  | k + 1 => by
    have ih := hiTo_bd hB h k
    cases hx : l[k]? with
    | none =>
      have : hiTo l (k + 1) = hiTo l k := by
        unfold hiTo
        rw [List.take_add_one, hx]
        simp
      rw [this, Int.natCast_succ, Int.mul_add]
      omega
    | some x =>
      rw [hiTo_succ hx, Int.natCast_succ, Int.mul_add]
      have := h x (List.mem_of_getElem? hx)
      omega
/-- The first of the houses by whose stopping most is lost. -/
def worstTo (c : Chn) (s : Span) : Nat → Int × Int
  | 0 => (0, -1)
  | k + 1 => match c.houses[k]? with
    | some h => if (worstTo c s k).2 < hiI (losesAll c h s) then (h, hiI (losesAll c h s)) else worstTo c s k
    | none => worstTo c s k
def worstE (c : Chn) (s : Span) : Int := if checkP c then (if pricedB s then (if c.houses.length = 0 then 6 else 0) else 62) else 60
def worstP (c : Chn) (s : Span) : Int × Int := if worstE c s = 0 then worstTo c s c.houses.length else (0, 0)
theorem worstTo_succ {c : Chn} {s : Span} {k : Nat} {h : Int} (hh : c.houses[k]? = some h) : worstTo c s (k + 1) = if (worstTo c s k).2 < hiI (losesAll c h s) then (h, hiI (losesAll c h s)) else worstTo c s k := by
  rw [worstTo, hh]
theorem hiI_bd {c : Chn} {st : Int} {s : Span} (hR : Right c) (hN : c.sales.length ≤ 10) (hs : pricedB s = true) : 0 ≤ hiI (losesAll c st s) ∧ hiI (losesAll c st s) ≤ 1000000000 := by
  have h1 := hiTo_bd (l := losesAll c st s) (B := 90000000) (by decide) (fun x hx => by
    obtain ⟨h, -, rfl⟩ := List.mem_map.1 hx
    exact loseS_bd hR hN hs) (losesAll c st s).length
  have h2 : (losesAll c st s).length ≤ 6 := by unfold losesAll; rw [List.length_map]; exact hR.h6
  unfold hiI
  omega
end Go.Proofs.YtafdbgielmlihaaDoor
/- Pays: the program's. -/
namespace Go.Proofs.YtafdbgielmlihaaDoor
open Go.RowKit Go.Shelf Go.Lib
set_option maxRecDepth 100000
set_option linter.unusedSimpArgs false

theorem payN_bd {c : Chn} {l : List Int} {p : Int} (hR : Right c) (hl : ∀ y ∈ l, 0 ≤ y ∧ y ≤ 9) (hp : 0 ≤ p ∧ p ≤ 1000000) : ∀ y ∈ payN c l p, -30000000 ≤ y ∧ y ≤ 30000000 := by
  intro y hy
  unfold payN at hy
  obtain ⟨⟨x, z⟩, hz, rfl⟩ := List.mem_map.1 hy
  obtain ⟨h1, h2⟩ := List.of_mem_zip hz
  obtain ⟨-, -, -, hb, hpr⟩ := hR.sale x h1
  have hz9 := hl z h2
  dsimp only
  have h3 := Int.mul_le_mul_of_nonneg_left (a := x.bales - z + 9) (b := 18) (c := 1000000) (by omega) (by decide)
  have h4 := mul_bd (a := x.price - p) (b := x.bales - z + 9) (A := 1000000) (B := 18) (by omega) (by omega) (by decide)
  have h5 : (x.price - p) * (x.bales - z + 9) = (x.price - p) * (x.bales - z) + (x.price - p) * 9 := Int.mul_add _ _ _
  omega
set_option maxHeartbeats 4000000 in
theorem pays_any (c : Chn) (l : List Int) (p : Int) (hv sv : Value) (w : World) (hcl : CloseOf c l) (hT : Tab w) (hh : SlI w hv c.houses) (hs : SlL w sv c.sales) (hl : c.sales.length ≤ 1000) :
    Calls Tryd.prog 37 #[valC hv sv, .int .i64 p] w (ListE (paysL c l p) (paysE c p) w) := by
  have HT := Lib.hid hT; have HH := Lib.hid hh; have HS := Lib.hid hs; have HL := Lib.hid hl
  obtain ⟨A, n, cp, rfl, hn, hlc, hcm⟩ := hh.form
  obtain ⟨A2, n2, cp2, rfl, hn2, hlc2, hcm2⟩ := hs.form
  have B0 := Lib.hid (show Blk (w.alloc (.cells #[.slice A n cp, .slice A2 n2 cp2] 25)) w.heap.size 25 #[.slice A n cp, .slice A2 n2 cp2] from Blk.new _ _ _)
  clear hh hs hT hl
  go_enter Tryd.func37, Tryd.ntmps37
  go_wp2_with fail
  refine (check_any c _ _ _ (HT.out.ext (Ext.al _ _)) (HH.out.ext (Ext.al _ _)) (HS.out.ext (Ext.al _ _)) HL.out).mono ?_
  rintro e w1 ⟨rfl, hE⟩
  have E1 := Lib.hid ((Ext.al w _).trans hE); have B1 := Lib.hid (B0.out.ext hE)
  clear hE
  cases hc : checkP c with
  | false =>
    have HO := Lib.hid (show paysL c l p = [] ∧ paysE c p = 60 by unfold paysL paysE paysB; rw [hc]; exact ⟨rfl, rfl⟩)
    clear hcl hc
    dsimp only [errB]
    go_wp2
    go_ret2
    exact ⟨⟨.slice none 0 0, by rw [HO.out.2]; rfl, by rw [HO.out.1]; exact Sl.nil _⟩, E1.out⟩
  | true =>
    have HO := Lib.hid (hcl.1 hc)
    have HR := Lib.hid (check_right hc).1
    have HS10 := Lib.hid (check_right hc).2
    have HCK := Lib.hid hc
    clear hcl hc
    dsimp only [errB]
    have hz1 := E1.out.size
    go_wp2_with fail
    refine (in1_any 0 1000000 p w1.heap.size _ (by simp) (by simp [go_sem])).mono ?_
    rintro e w2 ⟨rfl, hE⟩
    have E2 := Lib.hid (E1.out.trans ((Ext.al _ _).trans hE)); have B2 := Lib.hid (B1.out.ext ((Ext.al _ _).trans hE))
    clear hE
    cases hp : inB 0 1000000 p with
    | false =>
      have HO := Lib.hid (show paysL c l p = [] ∧ paysE c p = 62 by unfold paysL paysE paysB; rw [HCK.out, hp]; exact ⟨rfl, rfl⟩)
      clear hp
      go_wp2
      go_ret2
      exact ⟨⟨.slice none 0 0, by rw [HO.out.2]; rfl, by rw [HO.out.1]; exact Sl.nil _⟩, E2.out⟩
    | true =>
      have HP := Lib.hid (show paysL c l p = getsL c (payN c l p) ∧ paysE c p = 0 by unfold paysL paysE paysB; rw [HCK.out, hp]; exact ⟨rfl, rfl⟩)
      have hpb := inB_iff.1 hp
      clear hp
      have x0 := B2.out.c2
      have hz2 := E2.out.size
      go_wp2_with fail
      refine (closing_any c l _ _ _ HO.out HR.out (by have := HS10.out; omega) (HH.out.ext E2.out) (HS.out.ext E2.out)).mono ?_
      rintro e w3 ⟨mb, gm, hv', sv', cv', rfl, hE, h1, h2, h3, h4, h5, h6'⟩
      have E3 := Lib.hid (E2.out.trans hE); have B3 := Lib.hid (B2.out.ext hE)
      have hz3 := hE.size
      obtain ⟨N2, hN2⟩ : ∃ N2, c.sales.length = N2 := ⟨_, rfl⟩
      rw [hN2] at h3
      have HLN := Lib.hid (close_len HO.out)
      have hnN : n2 = N2 := by have := hn2.out; omega
      subst hnN
      have HN2 := Lib.hid hN2
      have hmlt := h3.lt; have hglt := h4.lt
      obtain ⟨A3, n3, cp3, rfl, -, -, -⟩ := h5.form
      have BM := Lib.hid h3; have RM := Lib.hid h4; have HH' := Lib.hid h5
      have HAB := Lib.hid (fun h => HH'.out.lt h)
      have hn6 : n ≤ 6 := by have := HR.out.h6; have := hn.out; omega
      have hn10 : n2 ≤ 10 := by have := HS10.out; omega
      have hmk := fun w => run_makeI (n := n) (by omega) w
      clear hE h3 h4 h5 h6' x0 hN2
      have x0 := B3.out.c2
      have HM := Lib.hid (payN_len HLN.out p)
      have HMB := Lib.hid (payN_bd HR.out (close_nine HR.out HO.out) hpb)
      have HZ := Lib.hid (show netTo c (payN c l p) 0 = List.replicate n 0 by rw [netTo_zero, hn.out])
      have HSB := Lib.hid (fun h => HS.out.lt (w := w) h)
      obtain ⟨w4, hw4⟩ : ∃ w4, w4 = w3.alloc (.cells (intsA (List.replicate n 0)) 3) := ⟨_, rfl⟩
      have E4 := Lib.hid (show Ext w3 w4 from hw4 ▸ Ext.al _ _)
      have R4 := Lib.hid (show RowI w4 w3.heap.size (List.replicate n 0) from hw4 ▸ Blk.new _ _ _)
      have hz4 : w4.heap.size = w3.heap.size + 1 := by rw [hw4]; simp
      have hbw := B3.out.lt
      go_wp2
      simp only [← hw4]
      clear x0 hmk hw4
      refine wp_loop_ghost_k (fun g A' W => ∃ (kk : Nat), kk ≤ n2 ∧ n2 - kk ≤ g ∧ Fr 72 [(1, .int .i64 p), (2, .pointer (some ⟨w.heap.size, 0, none⟩)), (7, .pointer (some ⟨mb, 0, none⟩)), (8, .slice (some ⟨w3.heap.size, 0, none⟩) n n), (28, .slice A2 n2 cp2), (29, .int .i64 (n2 : Int)), (30, .int .i64 (kk : Int))] [] A' ∧
        w4.grownBy W (some w3.heap.size) ∧ RowI W w3.heap.size (netTo c (payN c l p) kk)) n2 ?_ ?_
      · exact ⟨0, by omega, by omega, ⟨rfl, rfl, by simp [Act.eval]⟩, World.grownBy.refl _ _, by rw [HZ.out]; exact R4.out⟩
      · rintro g A' U ⟨kk, hkk, hg, hF, hG, hRw⟩ J K' hJ hK
        have HJ := Lib.hid hJ; have HG := Lib.hid hG; have RW := Lib.hid hRw
        have hzW := hG.size
        obtain ⟨ρ, rfl, hρ⟩ := hF.open_
        simp only [List.forall_mem_cons] at hρ
        obtain ⟨r1, r2, r7, r8, r28, r29, r30, -⟩ := hρ
        simp only [lst, Nat.reduceAdd, r1, r2, r7, r8, r28, r29, r30]
        clear r1 r2 r7 r8 r28 r29 r30 hF hG hRw hJ
        by_cases hlt : kk < n2
        · have hltz : (kk : Int) < (n2 : Int) := by omega
          have HSW := Lib.hid (((HS.out.ext E3.out).ext E4.out).grown HG.out fun h b o e => by have := HSB.out h b o e; omega)
          obtain ⟨b, off, x, rfl, hx, -, hcell⟩ := HSW.out.at_ hlt
          obtain ⟨c0, c1, c2, c3, c4⟩ := SlL.cells hcell (Ext.refl _)
          obtain ⟨y, hy⟩ : ∃ y, l[kk]? = some y := ⟨_, List.getElem?_eq_getElem (by have := HLN.out; have := HN2.out; omega)⟩
          obtain ⟨s, bb, hsi, hbi, hsl, hbl, hne⟩ := sale_at HR.out hx
          obtain ⟨-, -, -, hbal, hpri⟩ := HR.out.sale x (List.mem_of_getElem? hx)
          have hy9 := close_nine HR.out HO.out y (List.mem_of_getElem? hy)
          have hm := payN_get (p := p) hx hy
          have hqb := HMB.out _ (List.mem_of_getElem? hm)
          obtain ⟨q, hq⟩ : ∃ q, (x.price - p) * (x.bales - y) = q := ⟨_, rfl⟩
          rw [hq] at hm hqb
          have HX := Lib.hid hx; have HMq := Lib.hid hm; have HSI := Lib.hid hsi; have HBI := Lib.hid hbi; have HNE := Lib.hid hne
          have KS : ∀ v, -300000000 ≤ net ((salsOf c).take kk) ((payN c l p).take kk) v ∧ net ((salsOf c).take kk) ((payN c l p).take kk) v ≤ 300000000 := fun v => by
            have h1 := net_bd (B := 30000000) v (by decide) ((salsOf c).take kk) ((payN c l p).take kk) fun z hz => HMB.out z (List.mem_of_mem_take hz)
            have h2 : ((payN c l p).take kk).length ≤ 10 := by rw [List.length_take]; omega
            omega
          obtain ⟨P, hP⟩ : ∃ P, net ((salsOf c).take kk) ((payN c l p).take kk) s = P := ⟨_, rfl⟩
          obtain ⟨Q, hQ⟩ : ∃ Q, net ((salsOf c).take kk) ((payN c l p).take kk) bb = Q := ⟨_, rfl⟩
          have hPb := KS s; have hQb := KS bb
          rw [hP] at hPb
          rw [hQ] at hQb
          have HPP := Lib.hid hP; have HQQ := Lib.hid hQ
          have HST := Lib.hid (netTo_step HM.out hx hm hsi hbi hne hP hQ)
          have hwa : IntKind.i64.wrap (x.price - p) = x.price - p := by rw [IntKind.wrap_i64]; omega
          have hwb : IntKind.i64.wrap (x.bales - y) = x.bales - y := by rw [IntKind.wrap_i64]; omega
          have hwc : IntKind.i64.wrap ((x.price - p) * (x.bales - y)) = q := by rw [hq, IntKind.wrap_i64]; omega
          have hw1 : IntKind.i64.wrap (P + q) = P + q := by rw [IntKind.wrap_i64]; omega
          have hw2 : IntKind.i64.wrap (Q - q) = Q - q := by rw [IntKind.wrap_i64]; omega
          have hsz : (s : Int) < (n : Int) := by have := hn.out; omega
          have hbz : (bb : Int) < (n : Int) := by have := hn.out; omega
          have hsz' : s < n := by omega
          have hbz' : bb < n := by omega
          have hkn : kk < n2 := hlt
          clear hx hm hsi hbi hne hP hQ hcell KS hq
          obtain ⟨wx, hwx⟩ : ∃ wx, wx = U.alloc (.cells #[.int .i64 x.number, .int .i64 x.seller, .int .i64 x.buyer, .int .i64 x.bales, .int .i64 x.price] 68) := ⟨_, rfl⟩
          have BX := Lib.hid (show Blk wx U.heap.size 68 #[.int .i64 x.number, .int .i64 x.seller, .int .i64 x.buyer, .int .i64 x.bales, .int .i64 x.price] from hwx ▸ Blk.new _ _ _)
          have GX := Lib.hid (show w4.grownBy wx (some w3.heap.size) from hwx ▸ grown_ext HG.out (Ext.al _ _))
          have RX := Lib.hid (show RowI wx w3.heap.size (netTo c (payN c l p) kk) from hwx ▸ RW.out.alloc _)
          have BMX := Lib.hid ((BM.out.ext E4.out).grown GX.out (by intro e; injection e with e; omega))
          have RMX := Lib.hid (show RowI wx gm l from Blk.grown (RM.out.ext E4.out) GX.out (by intro e; injection e with e; omega))
          have HHX := Lib.hid ((HH'.out.ext E4.out).grown GX.out fun h b o e => by have := HAB.out h b o e; omega)
          have hzx : wx.heap.size = U.heap.size + 1 := by rw [hwx]; simp
          have HY := Lib.hid hy
          have m0 := fun W (h : Ext wx W) => (BX.out.ext h).c5.1
          have m1 := fun W (h : Ext wx W) => (BX.out.ext h).c5.2.1
          have m2 := fun W (h : Ext wx W) => (BX.out.ext h).c5.2.2.1
          have m3 := fun W (h : Ext wx W) => (BX.out.ext h).c5.2.2.2.1
          have m4 := fun W (h : Ext wx W) => (BX.out.ext h).c5.2.2.2.2.1
          have mm := fun W (h : Ext wx W) => (BMX.out.ext h).c4
          have my := fun W (h : Ext wx W) => (RMX.out.ext h).cell HY.out
          clear hy
          go_wp2
          simp only [← hwx]
          clear hwx c0 c1 c2 c3 c4
          refine wp_region_tame (fun W => Ext wx W) (fun W W' => Ext W W') (by kernel_rfl) 72 rfl (by decide +kernel) (Ext.refl _).drew ?_
          repeat (apply tame_q rfl; (intro ρ W hC hr hD; (obtain ⟨hrc, hrg, hrf, hrs⟩ := hr); (simp [go_sem] at hD); go_simp; first | exact ⟨⟨hC, Ext.refl _⟩, rfl⟩ | exact ⟨⟨hC, RS.refl _⟩, rfl⟩ | exact rfl); simp only [List.nil_append, List.cons_append])
          refine tame_end_put rfl rfl (fun ρ W hC hr hF => ?_)
          simp [go_sem] at hF
          simp only [putF, hF, List.set_cons_succ, List.set_cons_zero]
          clear hF hr
          have HC := Lib.hid hC
          clear hC m0 m1 m2 m3 m4 mm my
          have BV := Lib.hid (BX.out.ext HC.out); have RV := Lib.hid (RX.out.ext HC.out); have BMV := Lib.hid (BMX.out.ext HC.out); have HHV := Lib.hid (HHX.out.ext HC.out); have GV := Lib.hid (grown_ext GX.out HC.out)
          have hzV := HC.out.size
          obtain ⟨x0, x1, x2, x3, x4, xf, xl⟩ := BV.out.c5
          go_wp2_with fail
          refine (mhouse_any c x.seller s mb _ _ _ _ W BMV.out HHV.out HSI.out).mono ?_
          rintro e V1 ⟨rfl, hE⟩
          have BV1 := Lib.hid (BV.out.ext hE); have RV1 := Lib.hid (RV.out.ext hE); have BMV1 := Lib.hid (BMV.out.ext hE); have HHV1 := Lib.hid (HHV.out.ext hE); have GV1 := Lib.hid (grown_ext GV.out hE)
          have hzV1 := hE.size
          clear hE x0 x1 x2 x3 x4 xf xl BX RX BMX HHX HC BV RV BMV HHV
          have rs := RV1.out.cell (i := s) (x := P) (by rw [netTo_get hsl, HPP.out])
          have rf := RV1.out.frozen
          have rl := RV1.out.lt
          obtain ⟨V2, hV2⟩ : ∃ V2, V2 = V1.setCell ⟨w3.heap.size, s, none⟩ (.int .i64 (P + q)) := ⟨_, rfl⟩
          have RV2 := Lib.hid (show RowI V2 w3.heap.size ((netTo c (payN c l p) kk).set s (P + q)) from hV2 ▸ RV1.out.set s (P + q))
          have GS := Lib.hid (show V1.grownBy V2 (some w3.heap.size) from hV2 ▸ grown_set (World.grownBy.refl _ _) (p := ⟨w3.heap.size, s, none⟩) (.inl rfl) _)
          have BV2 := Lib.hid (BV1.out.grown GS.out (by intro e; injection e with e; omega))
          have BMV2 := Lib.hid (BMV1.out.grown GS.out (by intro e; injection e with e; omega))
          have HHV2 := Lib.hid (HHV1.out.grown GS.out fun h b o e => by have := HAB.out h b o e; omega)
          have GV2 := Lib.hid (grown_tr GV1.out GS.out)
          have y0 := BV2.out.c5
          rw [hV2] at y0
          go_wp2_with fail
          simp only [← hV2]
          clear rs rf rl y0 hV2
          refine (mhouse_any c x.buyer bb mb _ _ _ _ V2 BMV2.out HHV2.out HBI.out).mono ?_
          rintro e V3 ⟨rfl, hE⟩
          have RV3 := Lib.hid (RV2.out.ext hE); have GV3 := Lib.hid (grown_ext GV2.out hE)
          clear hE
          have rs := RV3.out.cell (i := bb) (x := Q) (by rw [List.getElem?_set, if_neg HNE.out, netTo_get hbl, HQQ.out])
          have rf := RV3.out.frozen
          have rl := RV3.out.lt
          go_wp2
          have hst := HST.out
          rw [show P - -q = P + q by omega, show Q + -q = Q - q by omega] at hst
          exact Handed.intro (n2 - (kk + 1)) (by omega) (HJ.out _ _ _ ⟨kk + 1, by omega, Nat.le_refl _, ⟨rfl, rfl, by simp [Act.eval]⟩, grown_set GV3.out (p := ⟨w3.heap.size, bb, none⟩) (.inl rfl) _, by rw [← hst]; exact RV3.out.set bb (Q - q)⟩)
        · have HE := Lib.hid (show kk = n2 by omega)
          go_wp2
          go_ret2
          refine ⟨⟨.slice (some ⟨w3.heap.size, 0, none⟩) n n, by rw [HP.out.2]; rfl, ?_⟩, ext_grown (E3.out.trans E4.out) HG.out (by omega)⟩
          have hr := RW.out
          rw [show kk = c.sales.length by have := HE.out; have := HN2.out; omega, netTo_all HM.out] at hr
          have := hr.sl (by rw [gets_len]; have := hn.out; unfold maxLen; omega)
          rw [gets_len, ← hn.out] at this
          rw [HP.out.1]
          exact this
end Go.Proofs.YtafdbgielmlihaaDoor
/- Pays: the reference's. -/
namespace Go.Proofs.YtafdbgielmlihaaDoor
open Go.RowKit Go.Shelf Go.Lib
set_option maxRecDepth 100000
set_option linter.unusedSimpArgs false

set_option maxHeartbeats 4000000 in
theorem refPays_any (c : Chn) (l : List Int) (p : Int) (hv sv : Value) (w : World) (hcl : CloseOf c l) (hh : SlI w hv c.houses) (hs : SlL w sv c.sales) :
    Calls Tryd.prog 38 #[valC hv sv, .int .i64 p] w (ListE (paysL c l p) (paysE c p) w) := by
  have HH := Lib.hid hh; have HS := Lib.hid hs
  obtain ⟨A, n, cp, rfl, hn, hlc, hcm⟩ := hh.form
  obtain ⟨A2, n2, cp2, rfl, hn2, hlc2, hcm2⟩ := hs.form
  have B0 := Lib.hid (show Blk (w.alloc (.cells #[.slice A n cp, .slice A2 n2 cp2] 25)) w.heap.size 25 #[.slice A n cp, .slice A2 n2 cp2] from Blk.new _ _ _)
  clear hh hs
  go_enter Tryd.func38, Tryd.ntmps38
  go_wp2_with fail
  refine (refChain_any c _ _ _ (HH.out.ext (Ext.al _ _)) (HS.out.ext (Ext.al _ _))).mono ?_
  rintro e w1 ⟨rfl, hE⟩
  have E1 := Lib.hid ((Ext.al w _).trans hE); have B1 := Lib.hid (B0.out.ext hE)
  clear hE
  cases hc : checkP c with
  | false =>
    have HO := Lib.hid (show paysL c l p = [] ∧ paysE c p = 60 by unfold paysL paysE paysB; rw [hc]; exact ⟨rfl, rfl⟩)
    clear hcl hc
    dsimp only [errB]
    go_wp2
    go_ret2
    exact ⟨⟨.slice none 0 0, by rw [HO.out.2]; rfl, by rw [HO.out.1]; exact Sl.nil _⟩, E1.out⟩
  | true =>
    have HO := Lib.hid (hcl.1 hc)
    have HR := Lib.hid (check_right hc).1
    have HS10 := Lib.hid (check_right hc).2
    have HCK := Lib.hid hc
    clear hcl hc
    dsimp only [errB]
    have hz1 := E1.out.size
    go_wp2_with fail
    refine (within_any p 0 1000000 _).mono ?_
    rintro e w2 ⟨rfl, rfl⟩
    have E2 := Lib.hid E1.out; have B2 := Lib.hid B1.out
    cases hp : inB 0 1000000 p with
    | false =>
      have HO := Lib.hid (show paysL c l p = [] ∧ paysE c p = 62 by unfold paysL paysE paysB; rw [HCK.out, hp]; exact ⟨rfl, rfl⟩)
      clear hp
      go_wp2
      go_ret2
      exact ⟨⟨.slice none 0 0, by rw [HO.out.2]; rfl, by rw [HO.out.1]; exact Sl.nil _⟩, E2.out⟩
    | true =>
      have HP := Lib.hid (show paysL c l p = getsL c (payN c l p) ∧ paysE c p = 0 by unfold paysL paysE paysB; rw [HCK.out, hp]; exact ⟨rfl, rfl⟩)
      have hpb := inB_iff.1 hp
      clear hp
      have x0 := B2.out.c2
      have hz2 := E2.out.size
      go_wp2_with fail
      refine (refclosing_any c l _ _ _ HO.out HR.out (by have := HS10.out; omega) (HH.out.ext E2.out) (HS.out.ext E2.out)).mono ?_
      rintro e w3 ⟨⟨v, rfl, hv⟩, hE⟩
      have E3 := Lib.hid (E2.out.trans hE); have B3 := Lib.hid (B2.out.ext hE)
      have hz3 := hE.size
      obtain ⟨N2, hN2⟩ : ∃ N2, c.sales.length = N2 := ⟨_, rfl⟩
      have HLN := Lib.hid (close_len HO.out)
      have hnN : n2 = N2 := by have := hn2.out; omega
      subst hnN
      have HN2 := Lib.hid hN2
      obtain ⟨A3, n3, cp3, rfl, hn3, -, -⟩ := hv.form
      have hn3e : n3 = n2 := by have := hn3.out; have := HLN.out; omega
      subst hn3e
      have HMV := Lib.hid hv
      have HMB3 := Lib.hid (fun h => HMV.out.lt h)
      have HAB := Lib.hid (fun h => HH.out.lt (w := w) h)
      have hn6 : n ≤ 6 := by have := HR.out.h6; have := hn.out; omega
      have hn10 : n3 ≤ 10 := by have := HS10.out; omega
      have hmk := fun w => run_makeI (n := n) (by omega) w
      clear hE hv x0 hN2
      have x0 := B3.out.c2
      have HM := Lib.hid (payN_len HLN.out p)
      have HMB := Lib.hid (payN_bd HR.out (close_nine HR.out HO.out) hpb)
      have HZ := Lib.hid (show netTo c (payN c l p) 0 = List.replicate n 0 by rw [netTo_zero, hn.out])
      have HSB := Lib.hid (fun h => HS.out.lt (w := w) h)
      obtain ⟨w4, hw4⟩ : ∃ w4, w4 = w3.alloc (.cells (intsA (List.replicate n 0)) 3) := ⟨_, rfl⟩
      have E4 := Lib.hid (show Ext w3 w4 from hw4 ▸ Ext.al _ _)
      have R4 := Lib.hid (show RowI w4 w3.heap.size (List.replicate n 0) from hw4 ▸ Blk.new _ _ _)
      have hz4 : w4.heap.size = w3.heap.size + 1 := by rw [hw4]; simp
      have hbw := B3.out.lt
      go_wp2
      simp only [← hw4]
      clear x0 hmk hw4
      refine wp_loop_ghost_k (fun g A' W => ∃ (kk : Nat), kk ≤ n3 ∧ n3 - kk ≤ g ∧ Fr 65 [(1, .int .i64 p), (2, .pointer (some ⟨w.heap.size, 0, none⟩)), (6, .slice A3 n3 cp3), (7, .slice (some ⟨w3.heap.size, 0, none⟩) n n), (24, .slice A2 n3 cp2), (25, .int .i64 (n3 : Int)), (26, .int .i64 (kk : Int))] [] A' ∧
        w4.grownBy W (some w3.heap.size) ∧ RowI W w3.heap.size (netTo c (payN c l p) kk)) n3 ?_ ?_
      · exact ⟨0, by omega, by omega, ⟨rfl, rfl, by simp [Act.eval]⟩, World.grownBy.refl _ _, by rw [HZ.out]; exact R4.out⟩
      · rintro g A' U ⟨kk, hkk, hg, hF, hG, hRw⟩ J K' hJ hK
        have HJ := Lib.hid hJ; have HG := Lib.hid hG; have RW := Lib.hid hRw
        have hzW := hG.size
        obtain ⟨ρ, rfl, hρ⟩ := hF.open_
        simp only [List.forall_mem_cons] at hρ
        obtain ⟨r1, r2, r6, r7, r24, r25, r26, -⟩ := hρ
        simp only [lst, Nat.reduceAdd, r1, r2, r6, r7, r24, r25, r26]
        clear r1 r2 r6 r7 r24 r25 r26 hF hG hRw hJ
        by_cases hlt : kk < n3
        · have hltz : (kk : Int) < (n3 : Int) := by omega
          have HSW := Lib.hid (((HS.out.ext E3.out).ext E4.out).grown HG.out fun h b o e => by have := HSB.out h b o e; omega)
          obtain ⟨b, off, x, rfl, hx, -, hcell⟩ := HSW.out.at_ hlt
          obtain ⟨c0, c1, c2, c3, c4⟩ := SlL.cells hcell (Ext.refl _)
          obtain ⟨y, hy⟩ : ∃ y, l[kk]? = some y := ⟨_, List.getElem?_eq_getElem (by have := HLN.out; have := HN2.out; omega)⟩
          obtain ⟨s, bb, hsi, hbi, hsl, hbl, hne⟩ := sale_at HR.out hx
          obtain ⟨-, -, -, hbal, hpri⟩ := HR.out.sale x (List.mem_of_getElem? hx)
          have hy9 := close_nine HR.out HO.out y (List.mem_of_getElem? hy)
          have hm := payN_get (p := p) hx hy
          have hqb := HMB.out _ (List.mem_of_getElem? hm)
          obtain ⟨q, hq⟩ : ∃ q, (x.price - p) * (x.bales - y) = q := ⟨_, rfl⟩
          rw [hq] at hm hqb
          have HX := Lib.hid hx; have HMq := Lib.hid hm; have HSI := Lib.hid hsi; have HBI := Lib.hid hbi; have HNE := Lib.hid hne
          have KS : ∀ v, -300000000 ≤ net ((salsOf c).take kk) ((payN c l p).take kk) v ∧ net ((salsOf c).take kk) ((payN c l p).take kk) v ≤ 300000000 := fun v => by
            have h1 := net_bd (B := 30000000) v (by decide) ((salsOf c).take kk) ((payN c l p).take kk) fun z hz => HMB.out z (List.mem_of_mem_take hz)
            have h2 : ((payN c l p).take kk).length ≤ 10 := by rw [List.length_take]; omega
            omega
          obtain ⟨P, hP⟩ : ∃ P, net ((salsOf c).take kk) ((payN c l p).take kk) s = P := ⟨_, rfl⟩
          obtain ⟨Q, hQ⟩ : ∃ Q, net ((salsOf c).take kk) ((payN c l p).take kk) bb = Q := ⟨_, rfl⟩
          have hPb := KS s; have hQb := KS bb
          rw [hP] at hPb
          rw [hQ] at hQb
          have HPP := Lib.hid hP; have HQQ := Lib.hid hQ
          have HST := Lib.hid (netTo_step HM.out hx hm hsi hbi hne hP hQ)
          have hwa : IntKind.i64.wrap (x.price - p) = x.price - p := by rw [IntKind.wrap_i64]; omega
          have hwb : IntKind.i64.wrap (x.bales - y) = x.bales - y := by rw [IntKind.wrap_i64]; omega
          have hwc : IntKind.i64.wrap ((x.price - p) * (x.bales - y)) = q := by rw [hq, IntKind.wrap_i64]; omega
          have hw1 : IntKind.i64.wrap (P + q) = P + q := by rw [IntKind.wrap_i64]; omega
          have hw2 : IntKind.i64.wrap (Q - q) = Q - q := by rw [IntKind.wrap_i64]; omega
          have hsz : (s : Int) < (n : Int) := by have := hn.out; omega
          have hbz : (bb : Int) < (n : Int) := by have := hn.out; omega
          have hsz' : s < n := by omega
          have hbz' : bb < n := by omega
          have hkn : kk < n3 := hlt
          clear hx hm hsi hbi hne hP hQ hcell KS hq
          obtain ⟨wx, hwx⟩ : ∃ wx, wx = U.alloc (.cells #[.int .i64 x.number, .int .i64 x.seller, .int .i64 x.buyer, .int .i64 x.bales, .int .i64 x.price] 68) := ⟨_, rfl⟩
          have BX := Lib.hid (show Blk wx U.heap.size 68 #[.int .i64 x.number, .int .i64 x.seller, .int .i64 x.buyer, .int .i64 x.bales, .int .i64 x.price] from hwx ▸ Blk.new _ _ _)
          have GX := Lib.hid (show w4.grownBy wx (some w3.heap.size) from hwx ▸ grown_ext HG.out (Ext.al _ _))
          have RX := Lib.hid (show RowI wx w3.heap.size (netTo c (payN c l p) kk) from hwx ▸ RW.out.alloc _)
          have BCX := Lib.hid ((B3.out.ext E4.out).grown GX.out (by intro e; injection e with e; omega))
          have HMX := Lib.hid ((HMV.out.ext E4.out).grown GX.out fun h b o e => by have := HMB3.out h b o e; omega)
          have HHX := Lib.hid (((HH.out.ext E3.out).ext E4.out).grown GX.out fun h b o e => by have := HAB.out h b o e; omega)
          have HSX := Lib.hid (((HS.out.ext E3.out).ext E4.out).grown GX.out fun h b o e => by have := HSB.out h b o e; omega)
          obtain ⟨b9, off9, y', e9, hy', -, hycell⟩ := HMX.out.at_ hlt
          rw [hy] at hy'
          injection hy' with hy'
          subst hy'
          subst e9
          have hzx : wx.heap.size = U.heap.size + 1 := by rw [hwx]; simp
          have HY := Lib.hid hy
          have m0 := fun W (h : Ext wx W) => (BX.out.ext h).c5.1
          have m1 := fun W (h : Ext wx W) => (BX.out.ext h).c5.2.1
          have m2 := fun W (h : Ext wx W) => (BX.out.ext h).c5.2.2.1
          have m3 := fun W (h : Ext wx W) => (BX.out.ext h).c5.2.2.2.1
          have m4 := fun W (h : Ext wx W) => (BX.out.ext h).c5.2.2.2.2.1
          have my := fun W (h : Ext wx W) => SlI.cell hycell h
          clear hy
          go_wp2
          simp only [← hwx]
          clear hwx c0 c1 c2 c3 c4
          refine wp_region_tame (fun W => Ext wx W) (fun W W' => Ext W W') (by kernel_rfl) 65 rfl (by decide +kernel) (Ext.refl _).drew ?_
          repeat (apply tame_q rfl; (intro ρ W hC hr hD; (obtain ⟨hrc, hrg, hrf, hrs⟩ := hr); (simp [go_sem] at hD); go_simp; first | exact ⟨⟨hC, Ext.refl _⟩, rfl⟩ | exact ⟨⟨hC, RS.refl _⟩, rfl⟩ | exact rfl); simp only [List.nil_append, List.cons_append])
          refine tame_end_put rfl rfl (fun ρ W hC hr hF => ?_)
          simp [go_sem] at hF
          simp only [putF, hF, List.set_cons_succ, List.set_cons_zero]
          clear hF hr
          have HC := Lib.hid hC
          clear hC m0 m1 m2 m3 m4 my hycell
          have BV := Lib.hid (BX.out.ext HC.out); have RV := Lib.hid (RX.out.ext HC.out); have BCV := Lib.hid (BCX.out.ext HC.out); have HHV := Lib.hid (HHX.out.ext HC.out); have HSV := Lib.hid (HSX.out.ext HC.out); have GV := Lib.hid (grown_ext GX.out HC.out)
          have hzV := HC.out.size
          obtain ⟨x0, x1, x2, x3, x4, xf, xl⟩ := BV.out.c5
          have y0 := BCV.out.c2
          go_wp2_with fail
          clear y0
          refine (house_at c x.seller s _ _ W HHV.out HSV.out HSI.out).mono ?_
          rintro e V1 ⟨rfl, hE⟩
          have BV1 := Lib.hid (BV.out.ext hE); have RV1 := Lib.hid (RV.out.ext hE); have BCV1 := Lib.hid (BCV.out.ext hE); have HHV1 := Lib.hid (HHV.out.ext hE); have HSV1 := Lib.hid (HSV.out.ext hE); have GV1 := Lib.hid (grown_ext GV.out hE)
          have hzV1 := hE.size
          clear hE x0 x1 x2 x3 x4 xf xl BX RX BCX HHX HSX HC BV RV BCV HHV HSV
          have rs := RV1.out.cell (i := s) (x := P) (by rw [netTo_get hsl, HPP.out])
          have rf := RV1.out.frozen
          have rl := RV1.out.lt
          obtain ⟨V2, hV2⟩ : ∃ V2, V2 = V1.setCell ⟨w3.heap.size, s, none⟩ (.int .i64 (P + q)) := ⟨_, rfl⟩
          have RV2 := Lib.hid (show RowI V2 w3.heap.size ((netTo c (payN c l p) kk).set s (P + q)) from hV2 ▸ RV1.out.set s (P + q))
          have GS := Lib.hid (show V1.grownBy V2 (some w3.heap.size) from hV2 ▸ grown_set (World.grownBy.refl _ _) (p := ⟨w3.heap.size, s, none⟩) (.inl rfl) _)
          have BV2 := Lib.hid (BV1.out.grown GS.out (by intro e; injection e with e; omega))
          have BCV2 := Lib.hid (BCV1.out.grown GS.out (by intro e; injection e with e; omega))
          have HSV2 := Lib.hid (HSV1.out.grown GS.out fun h b o e => by have := HSB.out h b o e; omega)
          have HHV2 := Lib.hid (HHV1.out.grown GS.out fun h b o e => by have := HAB.out h b o e; omega)
          have GV2 := Lib.hid (grown_tr GV1.out GS.out)
          have y0 := BV2.out.c5
          have z0 := BCV2.out.c2
          rw [hV2] at y0 z0
          go_wp2_with fail
          simp only [← hV2]
          clear rs rf rl y0 z0 hV2
          refine (house_at c x.buyer bb _ _ V2 HHV2.out HSV2.out HBI.out).mono ?_
          rintro e V3 ⟨rfl, hE⟩
          have RV3 := Lib.hid (RV2.out.ext hE); have GV3 := Lib.hid (grown_ext GV2.out hE)
          clear hE
          have rs := RV3.out.cell (i := bb) (x := Q) (by rw [List.getElem?_set, if_neg HNE.out, netTo_get hbl, HQQ.out])
          have rf := RV3.out.frozen
          have rl := RV3.out.lt
          go_wp2
          have hst := HST.out
          rw [show P - -q = P + q by omega, show Q + -q = Q - q by omega] at hst
          exact Handed.intro (n3 - (kk + 1)) (by omega) (HJ.out _ _ _ ⟨kk + 1, by omega, Nat.le_refl _, ⟨rfl, rfl, by simp [Act.eval]⟩, grown_set GV3.out (p := ⟨w3.heap.size, bb, none⟩) (.inl rfl) _, by rw [← hst]; exact RV3.out.set bb (Q - q)⟩)
        · have HE := Lib.hid (show kk = n3 by omega)
          go_wp2
          go_ret2
          refine ⟨⟨.slice (some ⟨w3.heap.size, 0, none⟩) n n, by rw [HP.out.2]; rfl, ?_⟩, ext_grown (E3.out.trans E4.out) HG.out (by omega)⟩
          have hr := RW.out
          rw [show kk = c.sales.length by have := HE.out; have := HN2.out; omega, netTo_all HM.out] at hr
          have := hr.sl (by rw [gets_len]; have := hn.out; unfold maxLen; omega)
          rw [gets_len, ← hn.out] at this
          rw [HP.out.1]
          exact this
end Go.Proofs.YtafdbgielmlihaaDoor
/- What a house loses at a price: the program's claim.at, the reference's Claims. -/
namespace Go.Proofs.YtafdbgielmlihaaDoor
open Go.RowKit Go.Shelf Go.Lib
set_option maxRecDepth 100000
set_option linter.unusedSimpArgs false

theorem claimX_eq {h st p : Int} {x : Sale} {q1 q2 q3 q4 : Bool} (h1 : decide (x.seller = st) = q1) (h2 : decide (x.buyer = h) = q2) (h3 : decide (x.buyer = st) = q3) (h4 : decide (x.seller = h) = q4) :
    claimX h st p x = if q1 && q2 then (p - x.price) * x.bales else if q3 && q4 then (x.price - p) * x.bales else 0 := by
  subst h1 h2 h3 h4
  unfold claimX
  simp
theorem bool_two {a b : Int} : ∃ q, decide (a = b) = q ∧ (a == b) = q := ⟨_, rfl, by cases h : (a == b) <;> simp_all⟩
set_option maxHeartbeats 4000000 in
theorem claims_any (c : Chn) (h st p : Int) (hv sv : Value) (w : World) (hR : Right c) (hN : c.sales.length ≤ 10) (hp : 0 ≤ p ∧ p ≤ 1000000) (hh : SlI w hv c.houses) (hs : SlL w sv c.sales) :
    Calls Tryd.prog 67 #[valC hv sv, .int .i64 h, .int .i64 st, .int .i64 p] w fun e w' => e = .returned (.int .i64 (claimI c h st p)) ∧ Ext w w' := by
  have HS := Lib.hid hs; have HR := Lib.hid hR
  obtain ⟨A, n, cp, rfl, -, -, -⟩ := hh.form
  obtain ⟨A2, n2, cp2, rfl, hn2, hlc2, hcm2⟩ := hs.form
  have HN := Lib.hid hN
  clear hh hs hR hN
  go_enter Tryd.func67, Tryd.ntmps67
  go_wp2
  skip
  refine wp_loop_ghost_k (fun g A' V => ∃ (k : Nat), k ≤ n2 ∧ n2 - k ≤ g ∧ Fr 59 [(1, .int .i64 h), (2, .int .i64 st), (3, .int .i64 p), (4, .pointer (some ⟨w.heap.size, 0, none⟩)), (9, .int .i64 (claimTo c h st p k)), (13, .slice A2 n2 cp2), (14, .int .i64 (n2 : Int)), (15, .int .i64 (k : Int))] [] A' ∧ Ext (w.alloc (.cells #[.slice A n cp, .slice A2 n2 cp2] 25)) V) n2 ?_ ?_
  · exact ⟨0, by omega, by omega, ⟨rfl, rfl, by simp [Act.eval, claimTo]⟩, Ext.refl _⟩
  · rintro g A' V ⟨k, hk, hg, hF, hE⟩ J K' hJ hK
    have HJ := Lib.hid hJ; have EV := Lib.hid hE
    obtain ⟨ρ, rfl, hρ⟩ := hF.open_
    simp only [List.forall_mem_cons] at hρ
    obtain ⟨r1, r2, r3, r4, r9, r13, r14, r15, -⟩ := hρ
    simp only [lst, Nat.reduceAdd, r1, r2, r3, r4, r9, r13, r14, r15]
    clear r1 r2 r3 r4 r9 r13 r14 r15
    have hz := hE.size
    clear hF hE hJ
    simp only [World.size_alloc] at hz
    have hbd := claimTo_bd (h := h) (st := st) HR.out hp k
    obtain ⟨a, ha⟩ : ∃ a, claimTo c h st p k = a := ⟨_, rfl⟩
    rw [ha] at hbd
    have HA := Lib.hid ha
    simp only [ha]
    have hk10 : k ≤ 10 := by have := hn2.out; have := HN.out; omega
    by_cases hlt : k < n2
    · have hltz : (k : Int) < (n2 : Int) := by omega
      skip
      obtain ⟨b, off, x, rfl, hx, -, hcell⟩ := ((HS.out.ext (Ext.al _ _)).ext EV.out).at_ hlt
      obtain ⟨c0, c1, c2, c3, c4⟩ := SlL.cells hcell (Ext.refl _)
      obtain ⟨hsb, -, -, hbal, hpri⟩ := HR.out.sale x (List.mem_of_getElem? hx)
      have hst := claimTo_succ (h := h) (st := st) (p := p) hx
      rw [ha] at hst
      obtain ⟨q1, h1, h1'⟩ := bool_two (a := x.seller) (b := st)
      obtain ⟨q2, h2, h2'⟩ := bool_two (a := x.buyer) (b := h)
      obtain ⟨q3, h3, h3'⟩ := bool_two (a := x.buyer) (b := st)
      obtain ⟨q4, h4, h4'⟩ := bool_two (a := x.seller) (b := h)
      rw [claimX_eq h1 h2 h3 h4] at hst
      have hex : q1 = true → q3 = true → False := fun e1 e3 => by
        subst e1 e3
        exact hsb ((of_decide_eq_true h1).trans (of_decide_eq_true h3).symm)
      have HEX := Lib.hid hex
      clear hsb hex
      have m1 := mul_bd (a := p - x.price) (b := x.bales) (A := 1000000) (B := 9) (by omega) (by omega) (by omega)
      have m2 := mul_bd (a := x.price - p) (b := x.bales) (A := 1000000) (B := 9) (by omega) (by omega) (by omega)
      obtain ⟨z1, hz1⟩ : ∃ z, (p - x.price) * x.bales = z := ⟨_, rfl⟩
      obtain ⟨z2, hz2⟩ : ∃ z, (x.price - p) * x.bales = z := ⟨_, rfl⟩
      rw [hz1] at m1 hst
      rw [hz2] at m2 hst
      have HST := Lib.hid hst
      have w1 : IntKind.i64.wrap (p - x.price) = p - x.price := by rw [IntKind.wrap_i64]; omega
      have w2 : IntKind.i64.wrap (x.price - p) = x.price - p := by rw [IntKind.wrap_i64]; omega
      have w3 : IntKind.i64.wrap ((p - x.price) * x.bales) = z1 := by rw [hz1, IntKind.wrap_i64]; omega
      have w4 : IntKind.i64.wrap ((x.price - p) * x.bales) = z2 := by rw [hz2, IntKind.wrap_i64]; omega
      have w5 : IntKind.i64.wrap (a + z1) = a + z1 := by rw [IntKind.wrap_i64]; omega
      have w6 : IntKind.i64.wrap (a + z2) = a + z2 := by rw [IntKind.wrap_i64]; omega
      clear hcell hx hst ha hz1 hz2 h1 h2 h3 h4 m1 m2
      have EA := Lib.hid (fun o => EV.out.alloc (o := o))
      cases q1 <;> cases q2 <;> cases q3 <;> cases q4 <;> first | (exact (HEX.out rfl rfl).elim) | (
        clear HEX
        go_wp2
        exact Handed.intro (n2 - (k + 1)) (by omega) (HJ.out _ _ _ ⟨k + 1, by omega, Nat.le_refl _, ⟨rfl, rfl, by rw [HST.out]; simp [Act.eval]⟩, EV.out.alloc _⟩))
    · have HE := Lib.hid (show k = n2 by omega)
      go_wp2
      go_ret
      refine ⟨?_, (Ext.al _ _).trans EV.out⟩
      rw [show claimI c h st p = a by have := HA.out; unfold claimI; rw [← this]; congr 1; have := HE.out; have := hn2.out; omega]
      first | rfl | (exact ret_int (by omega))
set_option maxHeartbeats 4000000 in
theorem claimAt_any (c : Chn) (h st p : Int) (hv sv : Value) (w : World) (hR : Right c) (hN : c.sales.length ≤ 10) (hp : 0 ≤ p ∧ p ≤ 1000000) (hh : SlI w hv c.houses) (hs : SlL w sv c.sales) :
    Calls Tryd.prog 94 #[.agg #[hv, sv, .int .i64 h, .int .i64 st], .int .i64 p] w fun e w' => e = .returned (.int .i64 (max 0 (claimI c h st p))) ∧ Ext w w' := by
  have HS := Lib.hid hs; have HR := Lib.hid hR
  obtain ⟨A, n, cp, rfl, -, -, -⟩ := hh.form
  obtain ⟨A2, n2, cp2, rfl, hn2, hlc2, hcm2⟩ := hs.form
  have HN := Lib.hid hN
  clear hh hs hR hN
  go_enter Tryd.func94, Tryd.ntmps94
  go_wp2
  skip
  refine wp_loop_ghost_k (fun g A' V => ∃ (k : Nat), k ≤ n2 ∧ n2 - k ≤ g ∧ Fr 63 [(1, .int .i64 p), (2, .pointer (some ⟨w.heap.size, 0, none⟩)), (5, .int .i64 (claimTo c h st p k)), (10, .slice A2 n2 cp2), (11, .int .i64 (n2 : Int)), (12, .int .i64 (k : Int))] [] A' ∧ Ext (w.alloc (.cells #[.slice A n cp, .slice A2 n2 cp2, .int .i64 h, .int .i64 st] 132)) V) n2 ?_ ?_
  · exact ⟨0, by omega, by omega, ⟨rfl, rfl, by simp [Act.eval, claimTo]⟩, Ext.refl _⟩
  · rintro g A' V ⟨k, hk, hg, hF, hE⟩ J K' hJ hK
    have HJ := Lib.hid hJ; have EV := Lib.hid hE
    obtain ⟨ρ, rfl, hρ⟩ := hF.open_
    simp only [List.forall_mem_cons] at hρ
    obtain ⟨r1, r2, r5, r10, r11, r12, -⟩ := hρ
    simp only [lst, Nat.reduceAdd, r1, r2, r5, r10, r11, r12]
    clear r1 r2 r5 r10 r11 r12
    have hz := hE.size
    clear hF hE hJ
    simp only [World.size_alloc] at hz
    have hbd := claimTo_bd (h := h) (st := st) HR.out hp k
    obtain ⟨a, ha⟩ : ∃ a, claimTo c h st p k = a := ⟨_, rfl⟩
    rw [ha] at hbd
    have HA := Lib.hid ha
    simp only [ha]
    have hk10 : k ≤ 10 := by have := hn2.out; have := HN.out; omega
    by_cases hlt : k < n2
    · have hltz : (k : Int) < (n2 : Int) := by omega
      obtain ⟨d0, d1, d2, d3, df, dl⟩ := ((Blk.new w 132 #[.slice A n cp, .slice A2 n2 cp2, .int .i64 h, .int .i64 st]).ext EV.out).c4
      obtain ⟨b, off, x, rfl, hx, -, hcell⟩ := ((HS.out.ext (Ext.al _ _)).ext EV.out).at_ hlt
      obtain ⟨c0, c1, c2, c3, c4⟩ := SlL.cells hcell (Ext.refl _)
      obtain ⟨hsb, -, -, hbal, hpri⟩ := HR.out.sale x (List.mem_of_getElem? hx)
      have hst := claimTo_succ (h := h) (st := st) (p := p) hx
      rw [ha] at hst
      obtain ⟨q1, h1, h1'⟩ := bool_two (a := x.seller) (b := st)
      obtain ⟨q2, h2, h2'⟩ := bool_two (a := x.buyer) (b := h)
      obtain ⟨q3, h3, h3'⟩ := bool_two (a := x.buyer) (b := st)
      obtain ⟨q4, h4, h4'⟩ := bool_two (a := x.seller) (b := h)
      rw [claimX_eq h1 h2 h3 h4] at hst
      have hex : q1 = true → q3 = true → False := fun e1 e3 => by
        subst e1 e3
        exact hsb ((of_decide_eq_true h1).trans (of_decide_eq_true h3).symm)
      have HEX := Lib.hid hex
      clear hsb hex
      have m1 := mul_bd (a := p - x.price) (b := x.bales) (A := 1000000) (B := 9) (by omega) (by omega) (by omega)
      have m2 := mul_bd (a := x.price - p) (b := x.bales) (A := 1000000) (B := 9) (by omega) (by omega) (by omega)
      obtain ⟨z1, hz1⟩ : ∃ z, (p - x.price) * x.bales = z := ⟨_, rfl⟩
      obtain ⟨z2, hz2⟩ : ∃ z, (x.price - p) * x.bales = z := ⟨_, rfl⟩
      rw [hz1] at m1 hst
      rw [hz2] at m2 hst
      have HST := Lib.hid hst
      have w1 : IntKind.i64.wrap (p - x.price) = p - x.price := by rw [IntKind.wrap_i64]; omega
      have w2 : IntKind.i64.wrap (x.price - p) = x.price - p := by rw [IntKind.wrap_i64]; omega
      have w3 : IntKind.i64.wrap ((p - x.price) * x.bales) = z1 := by rw [hz1, IntKind.wrap_i64]; omega
      have w4 : IntKind.i64.wrap ((x.price - p) * x.bales) = z2 := by rw [hz2, IntKind.wrap_i64]; omega
      have w5 : IntKind.i64.wrap (a + z1) = a + z1 := by rw [IntKind.wrap_i64]; omega
      have w6 : IntKind.i64.wrap (a + z2) = a + z2 := by rw [IntKind.wrap_i64]; omega
      clear hcell hx hst ha hz1 hz2 h1 h2 h3 h4 m1 m2
      have EA := Lib.hid (fun o => EV.out.alloc (o := o))
      cases q1 <;> cases q2 <;> cases q3 <;> cases q4 <;> first | (exact (HEX.out rfl rfl).elim) | (
        clear HEX
        go_wp2
        exact Handed.intro (n2 - (k + 1)) (by omega) (HJ.out _ _ _ ⟨k + 1, by omega, Nat.le_refl _, ⟨rfl, rfl, by rw [HST.out]; simp [Act.eval]⟩, EV.out.alloc _⟩))
    · have HE := Lib.hid (show k = n2 by omega)
      go_wp2
      go_ret
      refine ⟨?_, (Ext.al _ _).trans EV.out⟩
      rw [show claimI c h st p = a by have := HA.out; unfold claimI; rw [← this]; congr 1; have := HE.out; have := hn2.out; omega]
      first | rfl | (exact ret_int (by omega))
end Go.Proofs.YtafdbgielmlihaaDoor
/- Loses: the program's. -/
namespace Go.Proofs.YtafdbgielmlihaaDoor
open Go.RowKit Go.Shelf Go.Lib
set_option maxRecDepth 100000
set_option linter.unusedSimpArgs false

abbrev valSp (s : Span) : Value := .agg #[.int .i64 s.lo, .int .i64 s.hi]
theorem callVal_bound (g : FuncId) (r : Value) (vs : Array Value) : callVal (.func (.func g) #[r] #[]) vs = callFunc g (#[r] ++ vs) := by
  simp only [callVal, Deferred.ofValue]
  simp
  rfl
theorem priced_any (s : Span) (w : World) : Calls Tryd.prog 93 #[valSp s] w fun e w' => e = .returned (.bool (pricedB s)) ∧ Ext w w' := by
  go_enter Tryd.func93, Tryd.ntmps93
  go_wp2_with fail
  refine (in2_any 0 1000000 s.lo s.hi (w.heap.size + 1) _ (by simp) (by simp [go_sem]) (by simp [go_sem])).mono ?_
  rintro e w2 ⟨rfl, hE⟩
  have E2 := Lib.hid (((Ext.al w _).alloc _).trans hE)
  have B2 := Lib.hid (show Blk w2 w.heap.size 48 #[.int .i64 s.lo, .int .i64 s.hi] from ((Blk.new _ _ _).alloc _).ext hE)
  have HP := Lib.hid (show pricedB s = ((inB 0 1000000 s.lo && inB 0 1000000 s.hi) && decide (s.lo ≤ s.hi)) by
    unfold pricedB inB
    by_cases h1 : (0 : Int) ≤ s.lo <;> by_cases h2 : s.lo ≤ 1000000 <;> by_cases h3 : s.lo ≤ s.hi <;> by_cases h4 : s.hi ≤ 1000000 <;> by_cases h5 : (0 : Int) ≤ s.hi <;> simp [h1, h2, h3, h4, h5] <;> omega)
  clear hE
  obtain ⟨x0, x1, xf, xl⟩ := B2.out.c2
  cases hq : (inB 0 1000000 s.lo && inB 0 1000000 s.hi) with
  | false =>
    have HQ := Lib.hid hq; clear hq
    go_wp2
    go_ret
    exact ⟨ret_bool (by rw [HP.out, HQ.out]; rfl), E2.out⟩
  | true =>
    have HQ := Lib.hid hq; clear hq
    go_wp2
    go_ret
    exact ⟨ret_bool (by rw [HP.out, HQ.out]; simp), E2.out⟩
theorem refPrices_any (s : Span) (w : World) : Calls Tryd.prog 95 #[valSp s] w fun e w' => e = .returned (.bool (pricedB s)) ∧ Ext w w' := by
  have B0 := Lib.hid (show Blk (w.alloc (.cells #[.int .i64 s.lo, .int .i64 s.hi] 48)) w.heap.size 48 #[.int .i64 s.lo, .int .i64 s.hi] from Blk.new _ _ _)
  go_enter Tryd.func95, Tryd.ntmps95
  go_wp2_with fail
  refine (within_any s.lo 0 1000000 _).mono ?_
  rintro e w2 ⟨rfl, rfl⟩
  obtain ⟨x0, x1, xf, xl⟩ := B0.out.c2
  cases hq : inB 0 1000000 s.lo with
  | false =>
    have HQ := Lib.hid hq; clear hq
    go_wp2
    go_ret
    exact ⟨ret_bool (by unfold pricedB; rw [HQ.out]; rfl), Ext.al _ _⟩
  | true =>
    have HQ := Lib.hid hq; clear hq
    go_wp2_with fail
    refine (within_any s.hi s.lo 1000000 _).mono ?_
    rintro e w2 ⟨rfl, rfl⟩
    go_wp2
    go_ret
    exact ⟨ret_bool (by unfold pricedB; rw [HQ.out]; rfl), Ext.al _ _⟩
theorem encS_1 : ∀ x, ∀ u ∈ encS x, u.oneCell' = true := by
  intro x u hu
  simp only [encS, List.mem_cons, List.not_mem_nil, or_false] at hu
  rcases hu with rfl | rfl <;> rfl
theorem info48x : (Tryd.prog.info? 48).map (fun i => (i.zero, i.size, i.bytes)) = some (some (.agg #[.int .i64 0, .int .i64 0]), 2, 16) := by kernel_rfl
theorem cells2s {w : World} {b : Nat} {x y : Value} (h0 : w.cell? ⟨b, 0, none⟩ = some x) (h1 : w.cell? ⟨b, 1, none⟩ = some y) : ∀ (j : Nat) (u : Value), [x, y][j]? = some u → w.cell? ⟨b, j, none⟩ = some u := by
  intro j u hu
  match j, hu with
  | 0, hu => simp at hu; subst hu; exact h0
  | 1, hu => simp at hu; subst hu; exact h1
  | j + 2, hu => simp at hu
/-- Spans and an error. -/
def SpansE (l : List Span) (E : Int) (w : World) (e : Ending) (w' : World) : Prop := (∃ v, e = .returned (.tuple #[v, .int .i64 E]) ∧ SlS w' v l) ∧ Ext w w'
theorem loses_nil {c : Chn} {st : Int} {s : Span} {E : Int} (h : losesE c st s = E) (h0 : E ≠ 0) : losesL c st s = [] := by
  unfold losesL
  rw [if_neg (by rw [h]; exact h0)]
theorem losesTo_succ {c : Chn} {st : Int} {s : Span} {k : Nat} {id : Int} (h : c.houses[k]? = some id) : (c.houses.take (k + 1)).map (loseS c st s) = (c.houses.take k).map (loseS c st s) ++ [loseS c st s id] := by
  rw [List.take_add_one, h, List.map_append]
  rfl
set_option maxHeartbeats 4000000 in
theorem loses_any (c : Chn) (st : Int) (s : Span) (hv sv : Value) (w : World) (hT : Tab w) (hh : SlI w hv c.houses) (hs : SlL w sv c.sales) (hl : c.sales.length ≤ 1000) :
    Calls Tryd.prog 39 #[valC hv sv, .int .i64 st, valSp s] w (SpansE (losesL c st s) (losesE c st s) w) := by
  have HT := Lib.hid hT; have HH := Lib.hid hh; have HS := Lib.hid hs; have HL := Lib.hid hl
  obtain ⟨A, n, cp, rfl, hn, hlc, hcm⟩ := hh.form
  obtain ⟨A2, n2, cp2, rfl, hn2, hlc2, hcm2⟩ := hs.form
  obtain ⟨w0, hw0⟩ : ∃ w0, w0 = (w.alloc (.cells #[.slice A n cp, .slice A2 n2 cp2] 25)).alloc (.cells #[.int .i64 s.lo, .int .i64 s.hi] 48) := ⟨_, rfl⟩
  have E0 := Lib.hid (show Ext w w0 from hw0 ▸ (Ext.al _ _).alloc _)
  have B0 := Lib.hid (show Blk w0 w.heap.size 25 #[.slice A n cp, .slice A2 n2 cp2] from hw0 ▸ (Blk.new _ _ _).alloc _)
  have C0 := Lib.hid (show Blk w0 (w.heap.size + 1) 48 #[.int .i64 s.lo, .int .i64 s.hi] from hw0 ▸ Blk.at_ (by simp))
  have hz0 : w0.heap.size = w.heap.size + 2 := by rw [hw0]; simp
  clear hh hs hT hl
  go_enter Tryd.func39, Tryd.ntmps39
  go_wp2_with fail
  simp only [← hw0]
  clear hw0
  refine (check_any c _ _ _ (HT.out.ext E0.out) (HH.out.ext E0.out) (HS.out.ext E0.out) HL.out).mono ?_
  rintro e w1 ⟨rfl, hE⟩
  have E1 := Lib.hid (E0.out.trans hE); have B1 := Lib.hid (B0.out.ext hE); have C1 := Lib.hid (C0.out.ext hE)
  have hz1 := hE.size
  clear hE
  cases hc : checkP c with
  | false =>
    have HO := Lib.hid (show losesE c st s = 60 by unfold losesE; rw [hc]; rfl)
    clear hc
    dsimp only [errB]
    go_wp2
    go_ret2
    exact ⟨⟨.slice none 0 0, by rw [HO.out]; rfl, by rw [loses_nil HO.out (by decide)]; exact Sl.nil _⟩, E1.out⟩
  | true =>
    have HR := Lib.hid (check_right hc).1
    have HS10 := Lib.hid (check_right hc).2
    have HCK := Lib.hid hc
    clear hc
    dsimp only [errB]
    have x0 := B1.out.c2
    go_wp2_with fail
    clear x0
    refine (has_any c.houses _ st _ (HH.out.ext E1.out)).mono ?_
    rintro e w2 ⟨rfl, hE⟩
    have E2 := Lib.hid (E1.out.trans hE); have B2 := Lib.hid (B1.out.ext hE); have C2 := Lib.hid (C1.out.ext hE)
    have hz2 := hE.size
    clear hE
    cases hq : hasI c.houses st with
    | false =>
      have HO := Lib.hid (show losesE c st s = 6 by unfold losesE; rw [HCK.out, hq]; rfl)
      clear hq
      go_wp2
      go_ret2
      exact ⟨⟨.slice none 0 0, by rw [HO.out]; rfl, by rw [loses_nil HO.out (by decide)]; exact Sl.nil _⟩, E2.out⟩
    | true =>
      have HQ := Lib.hid hq
      clear hq
      have x0 := C2.out.c2
      go_wp2_with fail
      clear x0
      refine (priced_any s _).mono ?_
      rintro e w3 ⟨rfl, hE⟩
      have E3 := Lib.hid (E2.out.trans hE); have B3 := Lib.hid (B2.out.ext hE); have C3 := Lib.hid (C2.out.ext hE)
      have hz3 := hE.size
      clear hE
      cases hp : pricedB s with
      | false =>
        have HO := Lib.hid (show losesE c st s = 62 by unfold losesE; rw [HCK.out, HQ.out, hp]; rfl)
        clear hp
        go_wp2
        go_ret2
        exact ⟨⟨.slice none 0 0, by rw [HO.out]; rfl, by rw [loses_nil HO.out (by decide)]; exact Sl.nil _⟩, E3.out⟩
      | true =>
        have HO := Lib.hid (show losesE c st s = 0 by unfold losesE; rw [HCK.out, HQ.out, hp]; rfl)
        have HOL := Lib.hid (show losesL c st s = losesAll c st s by unfold losesL; rw [if_pos HO.out])
        have hpb : (0 ≤ s.lo ∧ s.lo ≤ 1000000) ∧ (0 ≤ s.hi ∧ s.hi ≤ 1000000) := by
          unfold pricedB at hp
          rw [Bool.and_eq_true, inB_iff, inB_iff] at hp
          omega
        have HPB := Lib.hid hpb
        clear hp hpb
        have hn6 : n ≤ 6 := by have := HR.out.h6; have := hn.out; omega
        have x0 := B3.out.c2
        go_wp2
        clear x0
        refine wp_loop_ghost_k (fun g A' W => ∃ (k : Nat) (A1 : Option Addr) (n1 d1 : Nat), k ≤ n ∧ n - k ≤ g ∧ Fr 60 [(1, .int .i64 st), (3, .pointer (some ⟨w.heap.size, 0, none⟩)), (5, .pointer (some ⟨w.heap.size + 1, 0, none⟩)), (8, .slice A1 n1 d1), (29, .slice A n cp), (30, .int .i64 (n : Int)), (31, .int .i64 (k : Int))] [] A' ∧
          Ext w3 W ∧ Own encS 48 2 W w3.heap.size (.slice A1 n1 d1) ((c.houses.take k).map (loseS c st s))) n ?_ ?_
        · exact ⟨0, none, 0, 0, by omega, by omega, ⟨rfl, rfl, by simp [Act.eval]⟩, Ext.refl _, by simpa using Own.nil _ _⟩
        · rintro g A' U ⟨k, A1, n1, d1, hk, hg, hF, hE, hOw⟩ J K' hJ hK
          have HJ := Lib.hid hJ; have EU := Lib.hid hE; have OU := Lib.hid hOw
          have hzU := hE.size
          obtain ⟨ρ, rfl, hρ⟩ := hF.open_
          simp only [List.forall_mem_cons] at hρ
          obtain ⟨r1, r3, r5, r8, r29, r30, r31, -⟩ := hρ
          simp only [lst, Nat.reduceAdd, r1, r3, r5, r8, r29, r30, r31]
          clear r1 r3 r5 r8 r29 r30 r31 hF hE hOw hJ
          have EWU := Lib.hid (E3.out.trans EU.out)
          by_cases hlt : k < n
          · have hltz : (k : Int) < (n : Int) := by omega
            obtain ⟨b9, off9, id, rfl, hx, -, hcell⟩ := (HH.out.ext EWU.out).at_ hlt
            have c9 := SlI.cell hcell (Ext.refl _)
            have HST := Lib.hid (losesTo_succ (st := st) (s := s) hx)
            have x0 := (B3.out.ext EU.out).c2
            have m1 := fun W (h : Ext U W) => ((C3.out.ext EU.out).ext h).c2
            have rb := callVal_bound
            clear hx hcell
            go_wp2
            clear x0 c9
            refine wp_region_tame (fun W => Ext U W) (fun W W' => Ext W W') (by kernel_rfl) 60 rfl (by decide +kernel) (Ext.refl _).drew ?_
            repeat (apply tame_q rfl; (intro ρ W hC hr hD; (obtain ⟨hrc, hrg, hrf, hrs⟩ := hr); (simp [go_sem] at hD); go_simp; first | exact ⟨⟨hC, Ext.refl _⟩, rfl⟩ | exact ⟨⟨hC, RS.refl _⟩, rfl⟩ | exact rfl); simp only [List.nil_append, List.cons_append])
            apply tame_q rfl
            · intro ρ W hC hr hD
              obtain ⟨hrc, hrg, hrf, hrs⟩ := hr
              simp [go_sem] at hD
              go_simp
              refine (claimAt_any c id st s.lo _ _ W HR.out HS10.out HPB.out.1 (HH.out.ext (EWU.out.trans hC)) (HS.out.ext (EWU.out.trans hC))).mono ?_
              rintro e w' ⟨rfl, hE⟩
              exact ⟨_, rfl, ⟨hC.trans hE, hE⟩, rfl⟩
            simp only [List.nil_append, List.cons_append]
            repeat (apply tame_q rfl; (intro ρ W hC hr hD; (obtain ⟨hrc, hrg, hrf, hrs⟩ := hr); (simp [go_sem] at hD); go_simp; first | exact ⟨⟨hC, Ext.refl _⟩, rfl⟩ | exact ⟨⟨hC, RS.refl _⟩, rfl⟩ | exact rfl); simp only [List.nil_append, List.cons_append])
            apply tame_q rfl
            · intro ρ W hC hr hD
              obtain ⟨hrc, hrg, hrf, hrs⟩ := hr
              simp [go_sem] at hD
              go_simp
              refine (claimAt_any c id st s.hi _ _ W HR.out HS10.out HPB.out.2 (HH.out.ext (EWU.out.trans hC)) (HS.out.ext (EWU.out.trans hC))).mono ?_
              rintro e w' ⟨rfl, hE⟩
              exact ⟨_, rfl, ⟨hC.trans hE, hE⟩, rfl⟩
            simp only [List.nil_append, List.cons_append]
            repeat (apply tame_q rfl; (intro ρ W hC hr hD; (obtain ⟨hrc, hrg, hrf, hrs⟩ := hr); (simp [go_sem] at hD); go_simp; first | exact ⟨⟨hC, Ext.refl _⟩, rfl⟩ | exact ⟨⟨hC, RS.refl _⟩, rfl⟩ | exact rfl); simp only [List.nil_append, List.cons_append])
            refine tame_end_put rfl rfl (fun ρ W hC hr hF => ?_)
            simp [go_sem] at hF
            simp only [putF, hF, List.set_cons_succ, List.set_cons_zero]
            clear hF hr
            have HC := Lib.hid hC
            have hzW := hC.size
            clear hC m1 rb
            obtain ⟨a, ha⟩ : ∃ a, claimI c id st s.lo = a := ⟨_, rfl⟩
            obtain ⟨b, hb⟩ : ∃ b, claimI c id st s.hi = b := ⟨_, rfl⟩
            simp only [ha, hb]
            have HAB := Lib.hid (show loseS c st s id = ⟨max 0 (min a b), max 0 (max a b)⟩ by unfold loseS; rw [ha, hb])
            clear ha hb
            have hlen : ((c.houses.take k).map (loseS c st s)).length ≤ 10 := by rw [List.length_map, List.length_take]; omega
            have HSL := Lib.hid (show loseS c st s id = ⟨min (max 0 a) (max 0 b), max 0 (max a (max 0 b))⟩ by rw [HAB.out]; congr 1 <;> omega)
            go_wp2_with (at_builtin; refine wpList_app encS 56 48 2 _ 16 Tryd.underlying56 info48x rfl (by decide) (by decide) (fun _ => rfl) encS_1 rfl (.tmp 48) (.tmp 56) rfl w3.heap.size _ ((c.houses.take k).map (loseS c st s)) rfl ((OU.out.ext HC.out).alloc _) W.heap.size 1 ⟨min (max 0 a) (max 0 b), max 0 (max a (max 0 b))⟩ rfl (cells2s (by simp [go_sem]) (by simp [go_sem])) (by omega) (by simp; omega) ?_)
            intro g9 cap w9 hown hg9 hbel hgr
            have HO9 := Lib.hid hown
            have HE9 := Lib.hid (show Ext w3 w9 from Below.trans ((EU.out.trans HC.out).alloc _) hbel)
            clear hown hbel hgr
            go_wp2
            exact Handed.intro (n - (k + 1)) (by omega) (HJ.out _ _ _ ⟨k + 1, _, _, _, by omega, Nat.le_refl _, ⟨rfl, rfl, by simp [Act.eval]; first | done | exact ⟨rfl, rfl, rfl⟩⟩, HE9.out, by rw [HST.out, HSL.out]; first | exact HO9.out | (rw [List.map_take]; exact HO9.out)⟩)
          · have HE := Lib.hid (show k = n by omega)
            go_wp2
            go_ret2
            refine ⟨⟨.slice A1 n1 d1, by rw [HO.out]; rfl, ?_⟩, EWU.out⟩
            have := OU.out
            rw [List.take_of_length_le (by have := HE.out; have := hn.out; omega)] at this
            rw [HOL.out]
            exact this.sl (fun _ => rfl)
end Go.Proofs.YtafdbgielmlihaaDoor
