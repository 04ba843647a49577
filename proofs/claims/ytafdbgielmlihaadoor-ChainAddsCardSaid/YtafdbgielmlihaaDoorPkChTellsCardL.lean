/- The reference's behind. -/
import Derived.Test.YtafdbgielmlihaaDoorPkChTellsCardE
import Derived.Test.YtafdbgielmlihaaDoorPkChTellsCardD
import Derived.Test.YtafdbgielmlihaaDoorPkChTellsCardK
import Derived.Deep.CutBlock
namespace Go.Proofs.YtafdbgielmlihaaDoor
open Go.RowKit Go.Shelf Go.Lib
set_option maxRecDepth 100000
set_option linter.unusedSimpArgs false

theorem at_get {c : Chn} (f : Nat → Int) {i : Nat} {x : Sale} (h : c.sales[i]? = some x) : (salsAt c f)[i]? = some ⟨(houseI c x.seller).toNat, (houseI c x.buyer).toNat, x.bales, f i⟩ := by
  unfold salsAt salsOf
  rw [costed_get, List.getElem?_map, h]
  simp [salOf]
theorem at_got {c : Chn} (f : Nat → Int) {i : Nat} {X : Sal} (h : (salsAt c f)[i]? = some X) : ∃ x, c.sales[i]? = some x ∧ X = ⟨(houseI c x.seller).toNat, (houseI c x.buyer).toNat, x.bales, f i⟩ := by
  have hi : i < c.sales.length := by have := (List.getElem?_eq_some_iff.1 h).1; rwa [at_len] at this
  obtain ⟨x, hx⟩ : ∃ x, c.sales[i]? = some x := ⟨_, List.getElem?_eq_getElem hi⟩
  refine ⟨x, hx, ?_⟩
  rw [at_get f hx] at h
  injection h with h
  exact h.symm
set_option maxHeartbeats 1000000 in
theorem behind_any (c : Chn) (f : Nat → Int) (b : Int) (a : Arc) (hv sv : Value) (w : World) (hab : arcT (salsAt c f) b = some a) (hR : Right c) (hl : c.sales.length ≤ 1000) (hh : SlI w hv c.houses) (hs : SlL w sv c.sales) :
    Calls Tryd.prog 123 #[valC hv sv, .int .i64 b] w fun e w' => e = .returned (.int .i64 (a.src : Int)) ∧ Ext w w' := by
  have HR := Lib.hid hR; have HH := Lib.hid hh; have HS := Lib.hid hs
  obtain ⟨A, n, cp, rfl, hn, hlc, hcm⟩ := hh.form
  obtain ⟨A2, n2, cp2, rfl, hn2, hlc2, hcm2⟩ := hs.form
  have hn1000 : n2 ≤ 1000 := by have := hn2.out; omega
  have B0 := Lib.hid (show Blk (w.alloc (.cells #[.slice A n cp, .slice A2 n2 cp2] 25)) w.heap.size 25 #[.slice A n cp, .slice A2 n2 cp2] from Blk.new _ _ _)
  clear hh hs hR hl
  unfold arcT at hab
  by_cases hb : 0 < b
  · rw [if_pos hb] at hab
    obtain ⟨X, hX, rfl⟩ := Option.map_eq_some_iff.1 hab
    obtain ⟨x, hx, rfl⟩ := at_got f hX
    obtain ⟨i, hi⟩ : ∃ i : Nat, (b - 1).toNat = i := ⟨_, rfl⟩
    rw [hi] at hx
    have hin : i < n2 := by have := (List.getElem?_eq_some_iff.1 hx).1; have := hn2.out; omega
    obtain ⟨b9, off, x', rfl, hx', -, hcell⟩ := HS.out.at_ hin
    rw [hx] at hx'
    injection hx' with hx'
    subst hx'
    have hsl := houseI_lt (HR.out.sale x (List.mem_of_getElem? hx)).2.1
    obtain ⟨s, hs⟩ : ∃ s : Nat, houseI c x.seller = s := ⟨(houseI c x.seller).toNat, by omega⟩
    have HSI := Lib.hid hs
    have hb1 : b - 1 = (i : Int) := by omega
    have hbe : b = (i : Int) + 1 := by omega
    have hiz : (i : Int) < (n2 : Int) := by omega
    subst hbe
    have hw00 : IntKind.i64.wrap (i : Int) = (i : Int) := by rw [IntKind.wrap_i64]; omega
    have hw0 : IntKind.i64.wrap ((i : Int) + 1 - 1) = (i : Int) := by rw [IntKind.wrap_i64]; omega
    have HC := Lib.hid (fun (W : World) (h : Ext w W) => (SlL.cells hcell h).2.1)
    clear hab hX hx hcell hi hb1 hsl hs
    go_enter Tryd.func123, Tryd.ntmps123
    go_wp2
    obtain ⟨w1, hw1⟩ : ∃ w1, w1 = w.alloc (.cells #[.slice A n cp, .slice (some ⟨b9, off, none⟩) n2 cp2] 25) := ⟨_, rfl⟩
    have E1 := Lib.hid (show Ext w w1 from hw1 ▸ Ext.al _ _)
    rw [← hw1] at B0
    simp only [← hw1]
    clear hw1
    have m0 := fun W (h : Ext w1 W) => (B0.out.ext h).c2
    have m1 := fun W (h : Ext w1 W) => HC.out W (E1.out.trans h)
    refine wp_region_tame (fun W => Ext w1 W) (fun W W' => Ext W W') (by kernel_rfl) 25 rfl (by decide +kernel) (Ext.refl _).drew ?_
    repeat (apply tame_q rfl; (intro ρ W hC hr hD; (obtain ⟨hrc, hrg, hrf, hrs⟩ := hr); (simp [go_sem] at hD); go_simp; first | exact ⟨⟨hC, Ext.refl _⟩, rfl⟩ | exact ⟨⟨hC, RS.refl _⟩, rfl⟩ | exact rfl); simp only [List.nil_append, List.cons_append])
    apply tame_q rfl
    · intro ρ W hC hr hD
      obtain ⟨hrc, hrg, hrf, hrs⟩ := hr
      simp [go_sem] at hD
      go_simp
      refine (house_at c x.seller s _ _ W (HH.out.ext (E1.out.trans hC)) (HS.out.ext (E1.out.trans hC)) HSI.out).mono ?_
      rintro e w' ⟨rfl, hE⟩
      exact ⟨_, rfl, ⟨hC.trans hE, hE⟩, rfl⟩
    simp only [List.nil_append, List.cons_append]
    repeat (apply tame_q rfl; (intro ρ W hC hr hD; (obtain ⟨hrc, hrg, hrf, hrs⟩ := hr); (simp [go_sem] at hD); go_simp; first | exact ⟨⟨hC, Ext.refl _⟩, rfl⟩ | exact ⟨⟨hC, RS.refl _⟩, rfl⟩ | exact rfl); simp only [List.nil_append, List.cons_append])
    refine tame_end 25 rfl rfl (fun ρ W hC hr hF => ?_)
    obtain ⟨hrc, hrg, hrf, hrs⟩ := hr
    simp [go_sem] at hF
    apply frame_to
    · go_simp
      exact rfl
    clear hF hrs hrc hrg hrf
    have EW := Lib.hid (E1.out.trans hC)
    clear hC m0 m1
    go_wp2
    go_ret
    exact ⟨ret_int (show (s : Int) = ((houseI c x.seller).toNat : Int) by rw [HSI.out]; rfl), EW.out⟩
  · rw [if_neg hb] at hab
    by_cases hb2 : b < 0
    · rw [if_pos hb2] at hab
      obtain ⟨X, hX, rfl⟩ := Option.map_eq_some_iff.1 hab
      obtain ⟨x, hx, rfl⟩ := at_got f hX
      obtain ⟨i, hi⟩ : ∃ i : Nat, (-1 - b).toNat = i := ⟨_, rfl⟩
      rw [hi] at hx
      have hin : i < n2 := by have := (List.getElem?_eq_some_iff.1 hx).1; have := hn2.out; omega
      obtain ⟨b9, off, x', rfl, hx', -, hcell⟩ := HS.out.at_ hin
      rw [hx] at hx'
      injection hx' with hx'
      subst hx'
      have hsl := houseI_lt (HR.out.sale x (List.mem_of_getElem? hx)).2.2.1
      obtain ⟨s, hs⟩ : ∃ s : Nat, houseI c x.buyer = s := ⟨(houseI c x.buyer).toNat, by omega⟩
      have HSI := Lib.hid hs
      have hbe : b = -1 - (i : Int) := by omega
      have hiz : (i : Int) < (n2 : Int) := by omega
      subst hbe
      have hw0 : IntKind.i64.wrap (-1 - (-1 - (i : Int))) = (i : Int) := by rw [IntKind.wrap_i64]; omega
      have hb0 : decide ((0 : Int) < -1 - (i : Int)) = false := decide_eq_false (by omega)
      have HC := Lib.hid (fun (W : World) (h : Ext w W) => (SlL.cells hcell h).2.2.1)
      clear hab hX hx hcell hi hsl hs
      go_enter Tryd.func123, Tryd.ntmps123
      go_wp2
      obtain ⟨w1, hw1⟩ : ∃ w1, w1 = w.alloc (.cells #[.slice A n cp, .slice (some ⟨b9, off, none⟩) n2 cp2] 25) := ⟨_, rfl⟩
      have E1 := Lib.hid (show Ext w w1 from hw1 ▸ Ext.al _ _)
      rw [← hw1] at B0
      simp only [← hw1]
      clear hw1
      have m0 := fun W (h : Ext w1 W) => (B0.out.ext h).c2
      have m1 := fun W (h : Ext w1 W) => HC.out W (E1.out.trans h)
      refine wp_region_tame (fun W => Ext w1 W) (fun W W' => Ext W W') (by kernel_rfl) 25 rfl (by decide +kernel) (Ext.refl _).drew ?_
      repeat (apply tame_q rfl; (intro ρ W hC hr hD; (obtain ⟨hrc, hrg, hrf, hrs⟩ := hr); (simp [go_sem] at hD); go_simp; first | exact ⟨⟨hC, Ext.refl _⟩, rfl⟩ | exact ⟨⟨hC, RS.refl _⟩, rfl⟩ | exact rfl); simp only [List.nil_append, List.cons_append])
      apply tame_q rfl
      · intro ρ W hC hr hD
        obtain ⟨hrc, hrg, hrf, hrs⟩ := hr
        simp [go_sem] at hD
        go_simp
        refine (house_at c x.buyer s _ _ W (HH.out.ext (E1.out.trans hC)) (HS.out.ext (E1.out.trans hC)) HSI.out).mono ?_
        rintro e w' ⟨rfl, hE⟩
        exact ⟨_, rfl, ⟨hC.trans hE, hE⟩, rfl⟩
      simp only [List.nil_append, List.cons_append]
      repeat (apply tame_q rfl; (intro ρ W hC hr hD; (obtain ⟨hrc, hrg, hrf, hrs⟩ := hr); (simp [go_sem] at hD); go_simp; first | exact ⟨⟨hC, Ext.refl _⟩, rfl⟩ | exact ⟨⟨hC, RS.refl _⟩, rfl⟩ | exact rfl); simp only [List.nil_append, List.cons_append])
      refine tame_end 25 rfl rfl (fun ρ W hC hr hF => ?_)
      obtain ⟨hrc, hrg, hrf, hrs⟩ := hr
      simp [go_sem] at hF
      apply frame_to
      · go_simp
        exact rfl
      clear hF hrs hrc hrg hrf
      have EW := Lib.hid (E1.out.trans hC)
      clear hC m0 m1
      go_wp2
      go_ret
      exact ⟨ret_int (show (s : Int) = ((houseI c x.buyer).toNat : Int) by rw [HSI.out]; rfl), EW.out⟩
    · rw [if_neg hb2] at hab
      cases hab
end Go.Proofs.YtafdbgielmlihaaDoor
/- The reference's round, part one: one sale of a pass. -/
namespace Go.Proofs.YtafdbgielmlihaaDoor
open Go.RowKit Go.Shelf Go.Lib
set_option maxRecDepth 100000
set_option linter.unusedSimpArgs false

/-- Memory in a pass. -/
structure RdW (w0 : World) (b3 gc gb : Nat) (hv sv : Value) (cost by' : List Int) (W : World) : Prop where
  e : Ext w0 W
  b : Blk W b3 25 #[hv, sv]
  c : RowI W gc cost
  y : RowI W gb by'
theorem RdW.ext {w0 : World} {b3 gc gb : Nat} {hv sv : Value} {cost by' : List Int} {W W' : World} (h : RdW w0 b3 gc gb hv sv cost by' W) (k : Ext W W') : RdW w0 b3 gc gb hv sv cost by' W' :=
  ⟨h.e.trans k, h.b.ext k, h.c.ext k, h.y.ext k⟩
/-- While two numbers are stored. -/
structure StC (w0 : World) (b3 gc gb bx : Nat) (hv sv : Value) (xs : Array Value) (by' by1 : List Int) (W : World) : Prop where
  e : Ext w0 W
  b : Blk W b3 25 #[hv, sv]
  x : Blk W bx 68 xs
  c : ∃ z, RowI W gc z
  y : RowI W gb by' ∨ RowI W gb by1
theorem StC.drew {w0 : World} {b3 gc gb bx : Nat} {hv sv : Value} {xs : Array Value} {by' by1 : List Int} {W : World} (h : StC w0 b3 gc gb bx hv sv xs by' by1 W) : StC w0 b3 gc gb bx hv sv xs by' by1 W.drew :=
  ⟨h.e.trans (Ext.refl _).drew, h.b.ext (Ext.refl _).drew, h.x.ext (Ext.refl _).drew, h.c.imp fun _ h => h.ext (Ext.refl _).drew, h.y.imp (·.ext (Ext.refl _).drew) (·.ext (Ext.refl _).drew)⟩

theorem tameN_end_put {P : Program} {C : World → Prop} {R : World → World → Prop} {N : World → Prop} {l0 : List Oper} {s : Nat} {ds : List (Option Tmp)} {a0 : Act} {Q : Act → World → Prop} {n : Nat} {F : Facts} (hds : F.map (·.1) = ds) (hn : n = F.length)
    (h : ∀ ρ W, C W → Rd a0 ds ρ → allF F ρ W → Q { tmps := (putF ρ F a0.tmps.toList).toArray, defers := a0.defers } W) : wpTameN P C R N l0 s ds a0 Q n [] F :=
  tame_end_put (P := P) (R := R) hds hn h
set_option maxHeartbeats 8000000 in
theorem sale_wp {c : Chn} {f : Nat → Int} {Ks M cost by' : List Int} {s0 : BF × Option Nat} {la K : Int} {b3 gc gb n k kk : Nat} {A : Option Addr} {nh cp : Nat} {A2 : Option Addr} {n2 cp2 : Nat} {kv mv : Value} {w0 wr : World} {a0 : Act} {Q : Exit → Act → World → Prop}
    (hR : Right c) (hl : c.sales.length ≤ 100) (hn : n = c.houses.length) (hKs : ∀ i y, Ks[i]? = some y → y = f i) (hKl : Ks.length = c.sales.length) (hKb : ∀ i, -20000000000000 ≤ f i ∧ f i ≤ 20000000000000) (hml : M.length = c.sales.length) (hkk : kk < n2) (hK0 : 0 ≤ K) (hK1 : K ≤ 1000)
    (hF : Fr 183 [(1, kv), (2, mv), (3, .pointer (some ⟨b3, 0, none⟩)), (7, .int .i64 (n : Int)), (8, .slice (some ⟨gc, 0, none⟩) n n), (9, .slice (some ⟨gb, 0, none⟩) n n), (10, .int .i64 la), (11, .int .i64 (k : Int)), (33, .slice A2 n2 cp2), (34, .int .i64 (n2 : Int)), (35, .int .i64 (kk : Int))] [] a0)
    (hh : SlI w0 (.slice A nh cp) c.houses) (hs : SlL w0 (.slice A2 n2 cp2) c.sales) (hm : SlI w0 mv M) (hk : SlI w0 kv Ks) (hgc : w0.heap.size ≤ gc) (hgb : w0.heap.size ≤ gb) (_hb3 : w0.heap.size ≤ b3) (x1 : gc ≠ gb) (x2 : b3 ≠ gc) (x3 : b3 ≠ gb)
    (hW : RdW w0 b3 gc gb (.slice A nh cp) (.slice A2 n2 cp2) cost by' wr) (hS : RdS (salsAt c f) n K cost by' la s0)
    (hQ : ∀ A' W' cost1 by1 la1 x y, Fr 183 [(1, kv), (2, mv), (3, .pointer (some ⟨b3, 0, none⟩)), (7, .int .i64 (n : Int)), (8, .slice (some ⟨gc, 0, none⟩) n n), (9, .slice (some ⟨gb, 0, none⟩) n n), (10, .int .i64 la1), (11, .int .i64 (k : Int)), (33, .slice A2 n2 cp2), (34, .int .i64 (n2 : Int)), (35, .int .i64 (kk : Int))] [] A' →
      RdW w0 b3 gc gb (.slice A nh cp) (.slice A2 n2 cp2) cost1 by1 W' → (salsAt c f)[kk]? = some x → M[kk]? = some y → RdS (salsAt c f) n (K + 2) cost1 by1 la1 (((if y < x.cap then [fwd x kk] else []) ++ (if 0 < y then [bwd x kk] else [])).foldl relaxL s0) → Q .normal A' W') :
    (subC [1, 1, 1, 1, 1, 0, 1, 2, 3, 1, 0, 2, 1, 1, 2, 3, 1, 1, 0] (Tryd.f113.body.getD .skip)).wp Tryd.prog Q a0 wr := by
  obtain ⟨A', n', cp', e2, hn2, hlc2, hcm2⟩ := hs.form
  injection e2 with e2 e3 e4
  subst e2 e3 e4
  obtain ⟨Am, nm, cm, rfl, hnm, hlcm, hcmm⟩ := hm.form
  obtain ⟨Ak, nk, ck, rfl, hnk, hlck, hcmk⟩ := hk.form
  have e1 : nm = n2 := by have := hn2.out; have := hnm.out; omega
  have e2 : nk = n2 := by have := hn2.out; have := hnk.out; omega
  subst e1 e2
  have hltz : (kk : Int) < (nk : Int) := by omega
  have hn100 : nk ≤ 100 := by have := hn2.out; omega
  obtain ⟨b, off, x, rfl, hx, -, hcell⟩ := hs.at_ hkk
  obtain ⟨b8, off8, y, rfl, hy, -, hycell⟩ := hm.at_ hkk
  obtain ⟨b9, off9, fi, rfl, hfi, -, hkcell⟩ := hk.at_ hkk
  have hfe := hKs kk fi hfi
  have hfb := hKb kk
  rw [← hfe] at hfb
  obtain ⟨s, bb, hsi, hbi, hsl, hbl, hne⟩ := sale_at hR hx
  have HX := Lib.hid (show (salsAt c f)[kk]? = some ⟨s, bb, x.bales, fi⟩ by rw [at_get f hx, hsi, hbi, hfe]; rfl)
  have HY := Lib.hid hy; have HSI := Lib.hid hsi; have HBI := Lib.hid hbi
  have HQ := Lib.hid hQ; have HSS := Lib.hid hS; have HH := Lib.hid hh; have HS := Lib.hid hs; have HW := Lib.hid hW
  obtain ⟨P, hP⟩ : ∃ P, cost[s]? = some P := ⟨_, List.getElem?_eq_getElem (by rw [hS.c.lc]; omega)⟩
  obtain ⟨Qv, hQv⟩ : ∃ P, cost[bb]? = some P := ⟨_, List.getElem?_eq_getElem (by rw [hS.c.lc]; omega)⟩
  have hPb := hS.w P (List.mem_of_getElem? hP)
  have hQb := hS.w Qv (List.mem_of_getElem? hQv)
  have HP := Lib.hid hP; have HQV := Lib.hid hQv
  have hsz : (s : Int) < (n : Int) := by omega
  have hbz : (bb : Int) < (n : Int) := by omega
  have hsz' : s < n := by omega
  have hbz' : bb < n := by omega
  have NE := Lib.hid hne
  have HCY := Lib.hid (fun (W : World) (h : Ext w0 W) => SlI.cell hycell h)
  have HCK := Lib.hid (fun (W : World) (h : Ext w0 W) => SlI.cell hkcell h)
  obtain ⟨c0, c1, c2, c3, c4⟩ := SlL.cells hcell hW.e
  clear hR hl hn hKs hKl hKb hml hh hs hm hk hS hQ hx hy hfi hfe hsi hbi hne hcell hycell hkcell hP hQv hnm hnk hW
  delta Tryd.f113
  simp only [subC, Option.getD_some]
  obtain ⟨ρ, rfl, hρ⟩ := hF.open_
  simp only [List.forall_mem_cons] at hρ
  obtain ⟨r1, r2, r3, r7, r8, r9, r10, r11, r33, r34, r35, -⟩ := hρ
  simp only [lst, Nat.reduceAdd, r1, r2, r3, r7, r8, r9, r10, r11, r33, r34, r35]
  clear r1 r2 r3 r7 r8 r9 r10 r11 r33 r34 r35 hF
  go_wp2
  obtain ⟨wx, hwx⟩ : ∃ wx, wx = wr.alloc (.cells #[.int .i64 x.number, .int .i64 x.seller, .int .i64 x.buyer, .int .i64 x.bales, .int .i64 x.price] 68) := ⟨_, rfl⟩
  have BX0 := Lib.hid (show Blk wx wr.heap.size 68 #[.int .i64 x.number, .int .i64 x.seller, .int .i64 x.buyer, .int .i64 x.bales, .int .i64 x.price] from hwx ▸ Blk.new _ _ _)
  have RD0 := Lib.hid (show RdW w0 b3 gc gb (.slice A nh cp) (.slice (some ⟨b, off, none⟩) nk cp2) cost by' wx from hwx ▸ HW.out.ext (Ext.al _ _))
  have HXN := Lib.hid (show wr.heap.size ≠ gc ∧ wr.heap.size ≠ gb ∧ wr.heap.size ≠ b3 from ⟨by have := HW.out.c.lt; omega, by have := HW.out.y.lt; omega, by have := HW.out.b.lt; omega⟩)
  simp only [← hwx]
  clear hwx c0 c1 c2 c3 c4 HW
  have m0 := fun W (h : Ext wx W) => (RD0.out.b.ext h).c2
  have m1 := fun W (h : Ext wx W) => (BX0.out.ext h).c5
  refine wp_region_tame (fun W => Ext wx W) (fun W W' => Ext W W') (by kernel_rfl) 183 rfl (by decide +kernel) (Ext.refl _).drew ?_
  repeat (apply tame_q rfl; (intro ρ W hC hr hD; (obtain ⟨hrc, hrg, hrf, hrs⟩ := hr); (simp [go_sem] at hD); go_simp; first | exact ⟨⟨hC, Ext.refl _⟩, rfl⟩ | exact ⟨⟨hC, RS.refl _⟩, rfl⟩ | exact rfl); simp only [List.nil_append, List.cons_append])
  apply tame_q rfl
  · intro ρ W hC hr hD
    obtain ⟨hrc, hrg, hrf, hrs⟩ := hr
    simp [go_sem] at hD
    go_simp
    refine (house_at c x.seller s _ _ W (HH.out.ext (RD0.out.e.trans hC)) (HS.out.ext (RD0.out.e.trans hC)) HSI.out).mono ?_
    rintro e w' ⟨rfl, hE⟩
    exact ⟨_, rfl, ⟨hC.trans hE, hE⟩, rfl⟩
  simp only [List.nil_append, List.cons_append]
  repeat (apply tame_q rfl; (intro ρ W hC hr hD; (obtain ⟨hrc, hrg, hrf, hrs⟩ := hr); (simp [go_sem] at hD); go_simp; first | exact ⟨⟨hC, Ext.refl _⟩, rfl⟩ | exact ⟨⟨hC, RS.refl _⟩, rfl⟩ | exact rfl); simp only [List.nil_append, List.cons_append])
  apply tame_q rfl
  · intro ρ W hC hr hD
    obtain ⟨hrc, hrg, hrf, hrs⟩ := hr
    simp [go_sem] at hD
    go_simp
    refine (house_at c x.buyer bb _ _ W (HH.out.ext (RD0.out.e.trans hC)) (HS.out.ext (RD0.out.e.trans hC)) HBI.out).mono ?_
    rintro e w' ⟨rfl, hE⟩
    exact ⟨_, rfl, ⟨hC.trans hE, hE⟩, rfl⟩
  simp only [List.nil_append, List.cons_append]
  repeat (apply tame_q rfl; (intro ρ W hC hr hD; (obtain ⟨hrc, hrg, hrf, hrs⟩ := hr); (simp [go_sem] at hD); go_simp; first | exact ⟨⟨hC, Ext.refl _⟩, rfl⟩ | exact ⟨⟨hC, RS.refl _⟩, rfl⟩ | exact rfl); simp only [List.nil_append, List.cons_append])
  refine tame_end_put rfl rfl (fun ρ W hC hr hF => ?_)
  simp [go_sem] at hF
  simp only [putF, hF, List.set_cons_succ, List.set_cons_zero]
  clear hF hr
  have RD := Lib.hid (RD0.out.ext hC); have BX := Lib.hid (BX0.out.ext hC)
  clear hC m0 m1 RD0 BX0
  obtain ⟨V, hV⟩ : ∃ V, V = W := ⟨_, rfl⟩
  subst hV
  have m0 := fun W (h : Ext V W) => (BX.out.ext h).c5
  have m1 := fun W (h : Ext V W) => HCY.out W (RD.out.e.trans h)
  have m2 := fun W (h : Ext V W) => HCK.out W (RD.out.e.trans h)
  have m3 := fun W (h : Ext V W) => (RD.out.c.ext h).cell HP.out
  have m4 := fun W (h : Ext V W) => (RD.out.c.ext h).cell HQV.out
  have hw1 : IntKind.i64.wrap (P + fi) = P + fi := by rw [IntKind.wrap_i64]; omega
  have hw2 : IntKind.i64.wrap (1 + (kk : Int)) = 1 + (kk : Int) := by rw [IntKind.wrap_i64]; omega
  by_cases h1 : y < x.bales
  · by_cases h2 : P + fi < Qv
    · go_wp2
      refine wp_region_tame (fun W => Ext V W) (fun W W' => Ext W W') (by kernel_rfl) 183 rfl (by decide +kernel) (Ext.refl _).drew ?_
      repeat (apply tame_q rfl; (intro ρ W hC hr hD; (obtain ⟨hrc, hrg, hrf, hrs⟩ := hr); (simp [go_sem] at hD); go_simp; first | exact ⟨⟨hC, Ext.refl _⟩, rfl⟩ | exact ⟨⟨hC, RS.refl _⟩, rfl⟩ | exact rfl); simp only [List.nil_append, List.cons_append])
      refine tame_end_put rfl rfl (fun ρ W hC hr hF => ?_)
      simp [go_sem] at hF
      simp only [putF, hF, List.set_cons_succ, List.set_cons_zero]
      clear hF hr
      replace RD := Lib.hid (RD.out.ext hC); replace BX := Lib.hid (BX.out.ext hC)
      have RSS := Lib.hid HSS.out
      have HH1 := Lib.hid h1
      have RS1 := Lib.hid (HSS.out.fwd_yes HX.out HP.out HQV.out h2 hfb)
      clear hC m0 m1 m2 m3 m4
      go_wp2
      have mk := fun W (h : StC w0 b3 gc gb wr.heap.size (.slice A nh cp) (.slice (some ⟨b, off, none⟩) nk cp2) #[.int .i64 x.number, .int .i64 x.seller, .int .i64 x.buyer, .int .i64 x.bales, .int .i64 x.price] (by') (by'.set bb (1 + (kk : Int))) W) => HCK.out W h.e
      refine wp_region_tameN_cut (StC w0 b3 gc gb wr.heap.size (.slice A nh cp) (.slice (some ⟨b, off, none⟩) nk cp2) #[.int .i64 x.number, .int .i64 x.seller, .int .i64 x.buyer, .int .i64 x.bales, .int .i64 x.price] (by') (by'.set bb (1 + (kk : Int)))) (fun A B => (RowI A gc (cost.set bb (P + fi)) → RowI B gc (cost.set bb (P + fi))) ∧ (RowI A gb (by'.set bb (1 + (kk : Int))) → RowI B gb (by'.set bb (1 + (kk : Int))))) (fun W => RowI W gc cost) 17 (by kernel_rfl) 183 rfl _ rfl (by decide +kernel) (by decide +kernel) (by decide +kernel) rfl
        (StC.drew ⟨RD.out.e, RD.out.b, BX.out, ⟨_, RD.out.c⟩, .inl RD.out.y⟩) (RD.out.c.ext (Ext.refl _).drew) ?_
      simp only [List.dropLast]
      repeat (apply tameN_q rfl; (intro ρ W hC hN hr hD; (obtain ⟨hrc, hrg, hrf, hrs⟩ := hr); (simp [go_sem] at hD); go_simp; first | exact ⟨⟨hC, fun h => h, fun _ h => h⟩, rfl⟩ | exact ⟨hC, fun h => h, fun _ h => h⟩ | exact ⟨⟨hC, ⟨fun h => h, fun h => h⟩, fun _ h => h⟩, rfl⟩ | exact ⟨hC, ⟨fun h => h, fun h => h⟩, fun _ h => h⟩ | exact rfl); simp only [List.nil_append, List.cons_append])
      apply tameN_q rfl
      · intro ρ W hC hN hr hD
        obtain ⟨hrc, hrg, hrf, hrs⟩ := hr
        simp [go_sem] at hD
        have k0 := (hN rfl).cell HP.out
        go_simp
        first | exact ⟨⟨hC, ⟨fun h => h, fun h => h⟩, fun _ h => h⟩, rfl⟩ | exact ⟨hC, ⟨fun h => h, fun h => h⟩, fun _ h => h⟩
      simp only [List.nil_append, List.cons_append]
      repeat (apply tameN_q rfl; (intro ρ W hC hN hr hD; (obtain ⟨hrc, hrg, hrf, hrs⟩ := hr); (simp [go_sem] at hD); go_simp; first | exact ⟨⟨hC, fun h => h, fun _ h => h⟩, rfl⟩ | exact ⟨hC, fun h => h, fun _ h => h⟩ | exact ⟨⟨hC, ⟨fun h => h, fun h => h⟩, fun _ h => h⟩, rfl⟩ | exact ⟨hC, ⟨fun h => h, fun h => h⟩, fun _ h => h⟩ | exact rfl); simp only [List.nil_append, List.cons_append])
      apply tameN_n (fun _ W => RowI W gc (cost.set bb (P + fi))) (fun _ A B _ hR h => hR.1 h)
      · intro ρ W hC hN hr hD
        obtain ⟨hrc, hrg, hrf, hrs⟩ := hr
        simp [go_sem] at hD
        have h0 := hN rfl
        have k0 := h0.cell HQV.out
        have kf := h0.frozen
        have kl := h0.lt
        have H4 := Lib.hid (h0.set bb (P + fi)); have HC := Lib.hid hC
        clear h0 hN hC
        go_simp
        exact ⟨⟨⟨HC.out.e.setCell hgc _, HC.out.b.far x2 _, HC.out.x.far HXN.out.1 _, ⟨_, H4.out⟩, HC.out.y.imp (·.far (fun e => x1 e.symm) _) (·.far (fun e => x1 e.symm) _)⟩, ⟨fun _ => H4.out, fun h => h.far (fun e => x1 e.symm) _⟩, fun h => by cases h⟩, H4.out⟩
      simp only [List.nil_append, List.cons_append]
      repeat (apply tameN_q rfl; (intro ρ W hC hN hr hD; (obtain ⟨hrc, hrg, hrf, hrs⟩ := hr); (simp [go_sem] at hD); go_simp; first | exact ⟨⟨hC, fun h => h, fun _ h => h⟩, rfl⟩ | exact ⟨hC, fun h => h, fun _ h => h⟩ | exact ⟨⟨hC, ⟨fun h => h, fun h => h⟩, fun _ h => h⟩, rfl⟩ | exact ⟨hC, ⟨fun h => h, fun h => h⟩, fun _ h => h⟩ | exact rfl); simp only [List.nil_append, List.cons_append])
      apply tameN_n (fun _ W => RowI W gb (by'.set bb (1 + (kk : Int)))) (fun _ A B _ hR h => hR.2 h)
      · intro ρ W hC hN hr hD
        obtain ⟨hrc, hrg, hrf, hrs⟩ := hr
        simp [go_sem] at hD
        obtain ⟨z, k0⟩ : ∃ z, W.cell? ⟨gb, bb, none⟩ = some (.int .i64 z) := by
          rcases hC.y with h | h
          · obtain ⟨z, hz⟩ : ∃ z, (by')[bb]? = some z := ⟨_, List.getElem?_eq_getElem (by rw [RSS.out.c.lb]; assumption)⟩
            exact ⟨z, h.cell hz⟩
          · obtain ⟨z, hz⟩ : ∃ z, (by'.set bb (1 + (kk : Int)))[bb]? = some z := ⟨_, List.getElem?_eq_getElem (by rw [List.length_set, RSS.out.c.lb]; assumption)⟩
            exact ⟨z, h.cell hz⟩
        have kf : ∀ i, W.frozen? ⟨gb, i, none⟩ = false := hC.y.elim (·.frozen) (·.frozen)
        have kl : gb < W.heap.size := hC.y.elim (·.lt) (·.lt)
        have H4 := Lib.hid (show RowI (W.setCell ⟨gb, bb, none⟩ (.int .i64 (1 + (kk : Int)))) gb (by'.set bb (1 + (kk : Int))) from by
          rcases hC.y with h | h
          · exact h.set _ _
          · have := h.set bb (1 + (kk : Int))
            rwa [List.set_set] at this)
        have HC := Lib.hid hC
        clear hN hC
        go_simp
        exact ⟨⟨⟨HC.out.e.setCell hgb _, HC.out.b.far x3 _, HC.out.x.far HXN.out.2.1 _, HC.out.c.imp fun _ h => h.far x1 _, .inr H4.out⟩, ⟨fun h => h.far x1 _, fun _ => H4.out⟩, fun _ h => h.far x1 _⟩, H4.out⟩
      simp only [List.nil_append, List.cons_append]
      repeat (apply tameN_q rfl; (intro ρ W hC hN hr hD; (obtain ⟨hrc, hrg, hrf, hrs⟩ := hr); (simp [go_sem] at hD); go_simp; first | exact ⟨⟨hC, fun h => h, fun _ h => h⟩, rfl⟩ | exact ⟨hC, fun h => h, fun _ h => h⟩ | exact ⟨⟨hC, ⟨fun h => h, fun h => h⟩, fun _ h => h⟩, rfl⟩ | exact ⟨hC, ⟨fun h => h, fun h => h⟩, fun _ h => h⟩ | exact rfl); simp only [List.nil_append, List.cons_append])
      refine tameN_end_put rfl rfl (fun ρ W hC hr hF => ?_)
      simp [go_sem] at hF
      obtain ⟨f1, f2, f3, f4, f5, f6, f7, f8, f9, f10, f11, f12, f13, f14, f15, f16, f17, hc1, f18, hb1⟩ := hF
      simp only [putF, f1, f2, f3, f4, f5, f6, f7, f8, f9, f10, f11, f12, f13, f14, f15, f16, f17, f18, List.set_cons_succ, List.set_cons_zero]
      replace RD := Lib.hid (show RdW w0 b3 gc gb (.slice A nh cp) (.slice (some ⟨b, off, none⟩) nk cp2) (cost.set bb (P + fi)) (by'.set bb (1 + (kk : Int))) W from ⟨hC.e, hC.b, hc1, hb1⟩)
      replace BX := Lib.hid hC.x
      clear f1 f2 f3 f4 f5 f6 f7 f8 f9 f10 f11 f12 f13 f14 f15 f16 f17 f18 hc1 hb1 hC hr mk
      go_wp2
      replace RSS := Lib.hid (show RdS (salsAt c f) n (K + 1) (cost.set bb (P + fi)) (by'.set bb (1 + (kk : Int))) (bb : Int) (((if y < x.bales then [fwd ⟨s, bb, x.bales, fi⟩ kk] else []) : List Arc).foldl relaxL s0) from by rw [if_pos HH1.out]; exact RS1.out)
      clear RS1
      generalize (cost.set bb (P + fi)) = co at RD RSS
      generalize (by'.set bb (1 + (kk : Int))) = bo at RD RSS
      obtain ⟨P2, hP2⟩ : ∃ P, co[bb]? = some P := ⟨_, List.getElem?_eq_getElem (by rw [RSS.out.c.lc]; omega)⟩
      obtain ⟨Q2, hQ2⟩ : ∃ P, co[s]? = some P := ⟨_, List.getElem?_eq_getElem (by rw [RSS.out.c.lc]; omega)⟩
      have hPb2 := RSS.out.w P2 (List.mem_of_getElem? hP2)
      have hQb2 := RSS.out.w Q2 (List.mem_of_getElem? hQ2)
      have HP2 := Lib.hid hP2; have HQ2 := Lib.hid hQ2
      have hw3 : IntKind.i64.wrap (P2 - fi) = P2 - fi := by rw [IntKind.wrap_i64]; omega
      have hw4 : IntKind.i64.wrap (-1 - (kk : Int)) = -1 - (kk : Int) := by rw [IntKind.wrap_i64]; omega
      clear hP2 hQ2
      obtain ⟨V2, hV2⟩ : ∃ V2, V2 = W := ⟨_, rfl⟩
      subst hV2
      have m0 := fun W (h : Ext V2 W) => (BX.out.ext h).c5
      have m1 := fun W (h : Ext V2 W) => HCY.out W (RD.out.e.trans h)
      have m2 := fun W (h : Ext V2 W) => HCK.out W (RD.out.e.trans h)
      have m3 := fun W (h : Ext V2 W) => (RD.out.c.ext h).cell HP2.out
      have m4 := fun W (h : Ext V2 W) => (RD.out.c.ext h).cell HQ2.out
      by_cases g1 : 0 < y
      · by_cases g2 : P2 - fi < Q2
        · have G1 := Lib.hid g1; have G2 := Lib.hid g2
          refine wp_region_tame (fun W => Ext V2 W) (fun W W' => Ext W W') (by kernel_rfl) 183 rfl (by decide +kernel) (Ext.refl _).drew ?_
          repeat (apply tame_q rfl; (intro ρ W hC hr hD; (obtain ⟨hrc, hrg, hrf, hrs⟩ := hr); (simp [go_sem] at hD); go_simp; first | exact ⟨⟨hC, Ext.refl _⟩, rfl⟩ | exact ⟨⟨hC, RS.refl _⟩, rfl⟩ | exact rfl); simp only [List.nil_append, List.cons_append])
          refine tame_end_put rfl rfl (fun ρ W hC hr hF => ?_)
          simp [go_sem] at hF
          simp only [putF, hF, List.set_cons_succ, List.set_cons_zero]
          clear hF hr
          replace RD := Lib.hid (RD.out.ext hC); replace BX := Lib.hid (BX.out.ext hC)
          clear hC m0 m1 m2 m3 m4
          go_wp2
          have mk := fun W (h : StC w0 b3 gc gb wr.heap.size (.slice A nh cp) (.slice (some ⟨b, off, none⟩) nk cp2) #[.int .i64 x.number, .int .i64 x.seller, .int .i64 x.buyer, .int .i64 x.bales, .int .i64 x.price] (bo) (bo.set s (-1 - (kk : Int))) W) => HCK.out W h.e
          refine wp_region_tameN_cut (StC w0 b3 gc gb wr.heap.size (.slice A nh cp) (.slice (some ⟨b, off, none⟩) nk cp2) #[.int .i64 x.number, .int .i64 x.seller, .int .i64 x.buyer, .int .i64 x.bales, .int .i64 x.price] (bo) (bo.set s (-1 - (kk : Int)))) (fun A B => (RowI A gc (co.set s (P2 - fi)) → RowI B gc (co.set s (P2 - fi))) ∧ (RowI A gb (bo.set s (-1 - (kk : Int))) → RowI B gb (bo.set s (-1 - (kk : Int))))) (fun W => RowI W gc co) 17 (by kernel_rfl) 183 rfl _ rfl (by decide +kernel) (by decide +kernel) (by decide +kernel) rfl
            (StC.drew ⟨RD.out.e, RD.out.b, BX.out, ⟨_, RD.out.c⟩, .inl RD.out.y⟩) (RD.out.c.ext (Ext.refl _).drew) ?_
          simp only [List.dropLast]
          repeat (apply tameN_q rfl; (intro ρ W hC hN hr hD; (obtain ⟨hrc, hrg, hrf, hrs⟩ := hr); (simp [go_sem] at hD); go_simp; first | exact ⟨⟨hC, fun h => h, fun _ h => h⟩, rfl⟩ | exact ⟨hC, fun h => h, fun _ h => h⟩ | exact ⟨⟨hC, ⟨fun h => h, fun h => h⟩, fun _ h => h⟩, rfl⟩ | exact ⟨hC, ⟨fun h => h, fun h => h⟩, fun _ h => h⟩ | exact rfl); simp only [List.nil_append, List.cons_append])
          apply tameN_q rfl
          · intro ρ W hC hN hr hD
            obtain ⟨hrc, hrg, hrf, hrs⟩ := hr
            simp [go_sem] at hD
            have k0 := (hN rfl).cell HP2.out
            go_simp
            first | exact ⟨⟨hC, ⟨fun h => h, fun h => h⟩, fun _ h => h⟩, rfl⟩ | exact ⟨hC, ⟨fun h => h, fun h => h⟩, fun _ h => h⟩
          simp only [List.nil_append, List.cons_append]
          repeat (apply tameN_q rfl; (intro ρ W hC hN hr hD; (obtain ⟨hrc, hrg, hrf, hrs⟩ := hr); (simp [go_sem] at hD); go_simp; first | exact ⟨⟨hC, fun h => h, fun _ h => h⟩, rfl⟩ | exact ⟨hC, fun h => h, fun _ h => h⟩ | exact ⟨⟨hC, ⟨fun h => h, fun h => h⟩, fun _ h => h⟩, rfl⟩ | exact ⟨hC, ⟨fun h => h, fun h => h⟩, fun _ h => h⟩ | exact rfl); simp only [List.nil_append, List.cons_append])
          apply tameN_n (fun _ W => RowI W gc (co.set s (P2 - fi))) (fun _ A B _ hR h => hR.1 h)
          · intro ρ W hC hN hr hD
            obtain ⟨hrc, hrg, hrf, hrs⟩ := hr
            simp [go_sem] at hD
            have h0 := hN rfl
            have k0 := h0.cell HQ2.out
            have kf := h0.frozen
            have kl := h0.lt
            have H4 := Lib.hid (h0.set s (P2 - fi)); have HC := Lib.hid hC
            clear h0 hN hC
            go_simp
            exact ⟨⟨⟨HC.out.e.setCell hgc _, HC.out.b.far x2 _, HC.out.x.far HXN.out.1 _, ⟨_, H4.out⟩, HC.out.y.imp (·.far (fun e => x1 e.symm) _) (·.far (fun e => x1 e.symm) _)⟩, ⟨fun _ => H4.out, fun h => h.far (fun e => x1 e.symm) _⟩, fun h => by cases h⟩, H4.out⟩
          simp only [List.nil_append, List.cons_append]
          repeat (apply tameN_q rfl; (intro ρ W hC hN hr hD; (obtain ⟨hrc, hrg, hrf, hrs⟩ := hr); (simp [go_sem] at hD); go_simp; first | exact ⟨⟨hC, fun h => h, fun _ h => h⟩, rfl⟩ | exact ⟨hC, fun h => h, fun _ h => h⟩ | exact ⟨⟨hC, ⟨fun h => h, fun h => h⟩, fun _ h => h⟩, rfl⟩ | exact ⟨hC, ⟨fun h => h, fun h => h⟩, fun _ h => h⟩ | exact rfl); simp only [List.nil_append, List.cons_append])
          apply tameN_n (fun _ W => RowI W gb (bo.set s (-1 - (kk : Int)))) (fun _ A B _ hR h => hR.2 h)
          · intro ρ W hC hN hr hD
            obtain ⟨hrc, hrg, hrf, hrs⟩ := hr
            simp [go_sem] at hD
            obtain ⟨z, k0⟩ : ∃ z, W.cell? ⟨gb, s, none⟩ = some (.int .i64 z) := by
              rcases hC.y with h | h
              · obtain ⟨z, hz⟩ : ∃ z, (bo)[s]? = some z := ⟨_, List.getElem?_eq_getElem (by rw [RSS.out.c.lb]; assumption)⟩
                exact ⟨z, h.cell hz⟩
              · obtain ⟨z, hz⟩ : ∃ z, (bo.set s (-1 - (kk : Int)))[s]? = some z := ⟨_, List.getElem?_eq_getElem (by rw [List.length_set, RSS.out.c.lb]; assumption)⟩
                exact ⟨z, h.cell hz⟩
            have kf : ∀ i, W.frozen? ⟨gb, i, none⟩ = false := hC.y.elim (·.frozen) (·.frozen)
            have kl : gb < W.heap.size := hC.y.elim (·.lt) (·.lt)
            have H4 := Lib.hid (show RowI (W.setCell ⟨gb, s, none⟩ (.int .i64 (-1 - (kk : Int)))) gb (bo.set s (-1 - (kk : Int))) from by
              rcases hC.y with h | h
              · exact h.set _ _
              · have := h.set s (-1 - (kk : Int))
                rwa [List.set_set] at this)
            have HC := Lib.hid hC
            clear hN hC
            go_simp
            exact ⟨⟨⟨HC.out.e.setCell hgb _, HC.out.b.far x3 _, HC.out.x.far HXN.out.2.1 _, HC.out.c.imp fun _ h => h.far x1 _, .inr H4.out⟩, ⟨fun h => h.far x1 _, fun _ => H4.out⟩, fun _ h => h.far x1 _⟩, H4.out⟩
          simp only [List.nil_append, List.cons_append]
          repeat (apply tameN_q rfl; (intro ρ W hC hN hr hD; (obtain ⟨hrc, hrg, hrf, hrs⟩ := hr); (simp [go_sem] at hD); go_simp; first | exact ⟨⟨hC, fun h => h, fun _ h => h⟩, rfl⟩ | exact ⟨hC, fun h => h, fun _ h => h⟩ | exact ⟨⟨hC, ⟨fun h => h, fun h => h⟩, fun _ h => h⟩, rfl⟩ | exact ⟨hC, ⟨fun h => h, fun h => h⟩, fun _ h => h⟩ | exact rfl); simp only [List.nil_append, List.cons_append])
          refine tameN_end_put rfl rfl (fun ρ W hC hr hF => ?_)
          simp [go_sem] at hF
          obtain ⟨f1, f2, f3, f4, f5, f6, f7, f8, f9, f10, f11, f12, f13, f14, f15, f16, f17, hc1, f18, hb1⟩ := hF
          simp only [putF, f1, f2, f3, f4, f5, f6, f7, f8, f9, f10, f11, f12, f13, f14, f15, f16, f17, f18, List.set_cons_succ, List.set_cons_zero]
          replace RD := Lib.hid (show RdW w0 b3 gc gb (.slice A nh cp) (.slice (some ⟨b, off, none⟩) nk cp2) (co.set s (P2 - fi)) (bo.set s (-1 - (kk : Int))) W from ⟨hC.e, hC.b, hc1, hb1⟩)
          replace BX := Lib.hid hC.x
          clear f1 f2 f3 f4 f5 f6 f7 f8 f9 f10 f11 f12 f13 f14 f15 f16 f17 f18 hc1 hb1 hC hr mk
          go_wp2
          exact HQ.out _ _ (co.set s (P2 - fi)) (bo.set s (-1 - (kk : Int))) (s : Int) ⟨s, bb, x.bales, fi⟩ y ⟨rfl, rfl, by simp [Act.eval]⟩ RD.out HX.out HY.out (by rw [List.foldl_append, if_pos G1.out]; exact (RSS.out.bwd_yes (x := ⟨s, bb, x.bales, fi⟩) HX.out HP2.out HQ2.out G2.out hfb).mono (by omega))
        · have G1 := Lib.hid g1; have G2 := Lib.hid g2
          have g2d : decide (P2 - fi < Q2) = false := decide_eq_false g2
          refine wp_region_tame (fun W => Ext V2 W) (fun W W' => Ext W W') (by kernel_rfl) 183 rfl (by decide +kernel) (Ext.refl _).drew ?_
          repeat (apply tame_q rfl; (intro ρ W hC hr hD; (obtain ⟨hrc, hrg, hrf, hrs⟩ := hr); (simp [go_sem] at hD); go_simp; first | exact ⟨⟨hC, Ext.refl _⟩, rfl⟩ | exact ⟨⟨hC, RS.refl _⟩, rfl⟩ | exact rfl); simp only [List.nil_append, List.cons_append])
          refine tame_end_put rfl rfl (fun ρ W hC hr hF => ?_)
          simp [go_sem] at hF
          simp only [putF, hF, List.set_cons_succ, List.set_cons_zero]
          clear hF hr
          replace RD := Lib.hid (RD.out.ext hC)
          clear hC m0 m1 m2 m3 m4
          go_wp2
          exact HQ.out _ _ co bo ((bb : Int)) ⟨s, bb, x.bales, fi⟩ y ⟨rfl, rfl, by simp [Act.eval]⟩ RD.out HX.out HY.out (by rw [List.foldl_append, if_pos G1.out]; exact (RSS.out.bwd_no (x := ⟨s, bb, x.bales, fi⟩) HP2.out HQ2.out (by have := G2.out; show ¬ P2 - fi < Q2; omega)).mono (by omega))
      · have G1 := Lib.hid g1
        have g1d : decide (0 < y) = false := decide_eq_false g1
        refine wp_region_tame (fun W => Ext V2 W) (fun W W' => Ext W W') (by kernel_rfl) 183 rfl (by decide +kernel) (Ext.refl _).drew ?_
        repeat (apply tame_q rfl; (intro ρ W hC hr hD; (obtain ⟨hrc, hrg, hrf, hrs⟩ := hr); (simp [go_sem] at hD); go_simp; first | exact ⟨⟨hC, Ext.refl _⟩, rfl⟩ | exact ⟨⟨hC, RS.refl _⟩, rfl⟩ | exact rfl); simp only [List.nil_append, List.cons_append])
        refine tame_end_put rfl rfl (fun ρ W hC hr hF => ?_)
        simp [go_sem] at hF
        simp only [putF, hF, List.set_cons_succ, List.set_cons_zero]
        clear hF hr
        replace RD := Lib.hid (RD.out.ext hC)
        clear hC m0 m1 m2 m3 m4
        go_wp2
        exact HQ.out _ _ co bo ((bb : Int)) ⟨s, bb, x.bales, fi⟩ y ⟨rfl, rfl, by simp [Act.eval]⟩ RD.out HX.out HY.out (by rw [List.foldl_append, if_neg (c := 0 < y) (by have := G1.out; omega)]; exact RSS.out.mono (by omega))
    · have h2d : decide (P + fi < Qv) = false := decide_eq_false h2
      have HH1 := Lib.hid h1
      have RSS := Lib.hid (show RdS (salsAt c f) n (K + 1) cost by' la (((if y < x.bales then [fwd ⟨s, bb, x.bales, fi⟩ kk] else []) : List Arc).foldl relaxL s0) from by rw [if_pos h1]; exact HSS.out.fwd_no (x := ⟨s, bb, x.bales, fi⟩) HP.out HQV.out h2)
      go_wp2
      refine wp_region_tame (fun W => Ext V W) (fun W W' => Ext W W') (by kernel_rfl) 183 rfl (by decide +kernel) (Ext.refl _).drew ?_
      repeat (apply tame_q rfl; (intro ρ W hC hr hD; (obtain ⟨hrc, hrg, hrf, hrs⟩ := hr); (simp [go_sem] at hD); go_simp; first | exact ⟨⟨hC, Ext.refl _⟩, rfl⟩ | exact ⟨⟨hC, RS.refl _⟩, rfl⟩ | exact rfl); simp only [List.nil_append, List.cons_append])
      refine tame_end_put rfl rfl (fun ρ W hC hr hF => ?_)
      simp [go_sem] at hF
      simp only [putF, hF, List.set_cons_succ, List.set_cons_zero]
      clear hF hr
      replace RD := Lib.hid (RD.out.ext hC); replace BX := Lib.hid (BX.out.ext hC)
      clear hC m0 m1 m2 m3 m4
      go_wp2
      generalize cost = co at RD RSS
      generalize by' = bo at RD RSS
      obtain ⟨P2, hP2⟩ : ∃ P, co[bb]? = some P := ⟨_, List.getElem?_eq_getElem (by rw [RSS.out.c.lc]; omega)⟩
      obtain ⟨Q2, hQ2⟩ : ∃ P, co[s]? = some P := ⟨_, List.getElem?_eq_getElem (by rw [RSS.out.c.lc]; omega)⟩
      have hPb2 := RSS.out.w P2 (List.mem_of_getElem? hP2)
      have hQb2 := RSS.out.w Q2 (List.mem_of_getElem? hQ2)
      have HP2 := Lib.hid hP2; have HQ2 := Lib.hid hQ2
      have hw3 : IntKind.i64.wrap (P2 - fi) = P2 - fi := by rw [IntKind.wrap_i64]; omega
      have hw4 : IntKind.i64.wrap (-1 - (kk : Int)) = -1 - (kk : Int) := by rw [IntKind.wrap_i64]; omega
      clear hP2 hQ2
      obtain ⟨V2, hV2⟩ : ∃ V2, V2 = W := ⟨_, rfl⟩
      subst hV2
      have m0 := fun W (h : Ext V2 W) => (BX.out.ext h).c5
      have m1 := fun W (h : Ext V2 W) => HCY.out W (RD.out.e.trans h)
      have m2 := fun W (h : Ext V2 W) => HCK.out W (RD.out.e.trans h)
      have m3 := fun W (h : Ext V2 W) => (RD.out.c.ext h).cell HP2.out
      have m4 := fun W (h : Ext V2 W) => (RD.out.c.ext h).cell HQ2.out
      by_cases g1 : 0 < y
      · by_cases g2 : P2 - fi < Q2
        · have G1 := Lib.hid g1; have G2 := Lib.hid g2
          refine wp_region_tame (fun W => Ext V2 W) (fun W W' => Ext W W') (by kernel_rfl) 183 rfl (by decide +kernel) (Ext.refl _).drew ?_
          repeat (apply tame_q rfl; (intro ρ W hC hr hD; (obtain ⟨hrc, hrg, hrf, hrs⟩ := hr); (simp [go_sem] at hD); go_simp; first | exact ⟨⟨hC, Ext.refl _⟩, rfl⟩ | exact ⟨⟨hC, RS.refl _⟩, rfl⟩ | exact rfl); simp only [List.nil_append, List.cons_append])
          refine tame_end_put rfl rfl (fun ρ W hC hr hF => ?_)
          simp [go_sem] at hF
          simp only [putF, hF, List.set_cons_succ, List.set_cons_zero]
          clear hF hr
          replace RD := Lib.hid (RD.out.ext hC); replace BX := Lib.hid (BX.out.ext hC)
          clear hC m0 m1 m2 m3 m4
          go_wp2
          have mk := fun W (h : StC w0 b3 gc gb wr.heap.size (.slice A nh cp) (.slice (some ⟨b, off, none⟩) nk cp2) #[.int .i64 x.number, .int .i64 x.seller, .int .i64 x.buyer, .int .i64 x.bales, .int .i64 x.price] (bo) (bo.set s (-1 - (kk : Int))) W) => HCK.out W h.e
          refine wp_region_tameN_cut (StC w0 b3 gc gb wr.heap.size (.slice A nh cp) (.slice (some ⟨b, off, none⟩) nk cp2) #[.int .i64 x.number, .int .i64 x.seller, .int .i64 x.buyer, .int .i64 x.bales, .int .i64 x.price] (bo) (bo.set s (-1 - (kk : Int)))) (fun A B => (RowI A gc (co.set s (P2 - fi)) → RowI B gc (co.set s (P2 - fi))) ∧ (RowI A gb (bo.set s (-1 - (kk : Int))) → RowI B gb (bo.set s (-1 - (kk : Int))))) (fun W => RowI W gc co) 17 (by kernel_rfl) 183 rfl _ rfl (by decide +kernel) (by decide +kernel) (by decide +kernel) rfl
            (StC.drew ⟨RD.out.e, RD.out.b, BX.out, ⟨_, RD.out.c⟩, .inl RD.out.y⟩) (RD.out.c.ext (Ext.refl _).drew) ?_
          simp only [List.dropLast]
          repeat (apply tameN_q rfl; (intro ρ W hC hN hr hD; (obtain ⟨hrc, hrg, hrf, hrs⟩ := hr); (simp [go_sem] at hD); go_simp; first | exact ⟨⟨hC, fun h => h, fun _ h => h⟩, rfl⟩ | exact ⟨hC, fun h => h, fun _ h => h⟩ | exact ⟨⟨hC, ⟨fun h => h, fun h => h⟩, fun _ h => h⟩, rfl⟩ | exact ⟨hC, ⟨fun h => h, fun h => h⟩, fun _ h => h⟩ | exact rfl); simp only [List.nil_append, List.cons_append])
          apply tameN_q rfl
          · intro ρ W hC hN hr hD
            obtain ⟨hrc, hrg, hrf, hrs⟩ := hr
            simp [go_sem] at hD
            have k0 := (hN rfl).cell HP2.out
            go_simp
            first | exact ⟨⟨hC, ⟨fun h => h, fun h => h⟩, fun _ h => h⟩, rfl⟩ | exact ⟨hC, ⟨fun h => h, fun h => h⟩, fun _ h => h⟩
          simp only [List.nil_append, List.cons_append]
          repeat (apply tameN_q rfl; (intro ρ W hC hN hr hD; (obtain ⟨hrc, hrg, hrf, hrs⟩ := hr); (simp [go_sem] at hD); go_simp; first | exact ⟨⟨hC, fun h => h, fun _ h => h⟩, rfl⟩ | exact ⟨hC, fun h => h, fun _ h => h⟩ | exact ⟨⟨hC, ⟨fun h => h, fun h => h⟩, fun _ h => h⟩, rfl⟩ | exact ⟨hC, ⟨fun h => h, fun h => h⟩, fun _ h => h⟩ | exact rfl); simp only [List.nil_append, List.cons_append])
          apply tameN_n (fun _ W => RowI W gc (co.set s (P2 - fi))) (fun _ A B _ hR h => hR.1 h)
          · intro ρ W hC hN hr hD
            obtain ⟨hrc, hrg, hrf, hrs⟩ := hr
            simp [go_sem] at hD
            have h0 := hN rfl
            have k0 := h0.cell HQ2.out
            have kf := h0.frozen
            have kl := h0.lt
            have H4 := Lib.hid (h0.set s (P2 - fi)); have HC := Lib.hid hC
            clear h0 hN hC
            go_simp
            exact ⟨⟨⟨HC.out.e.setCell hgc _, HC.out.b.far x2 _, HC.out.x.far HXN.out.1 _, ⟨_, H4.out⟩, HC.out.y.imp (·.far (fun e => x1 e.symm) _) (·.far (fun e => x1 e.symm) _)⟩, ⟨fun _ => H4.out, fun h => h.far (fun e => x1 e.symm) _⟩, fun h => by cases h⟩, H4.out⟩
          simp only [List.nil_append, List.cons_append]
          repeat (apply tameN_q rfl; (intro ρ W hC hN hr hD; (obtain ⟨hrc, hrg, hrf, hrs⟩ := hr); (simp [go_sem] at hD); go_simp; first | exact ⟨⟨hC, fun h => h, fun _ h => h⟩, rfl⟩ | exact ⟨hC, fun h => h, fun _ h => h⟩ | exact ⟨⟨hC, ⟨fun h => h, fun h => h⟩, fun _ h => h⟩, rfl⟩ | exact ⟨hC, ⟨fun h => h, fun h => h⟩, fun _ h => h⟩ | exact rfl); simp only [List.nil_append, List.cons_append])
          apply tameN_n (fun _ W => RowI W gb (bo.set s (-1 - (kk : Int)))) (fun _ A B _ hR h => hR.2 h)
          · intro ρ W hC hN hr hD
            obtain ⟨hrc, hrg, hrf, hrs⟩ := hr
            simp [go_sem] at hD
            obtain ⟨z, k0⟩ : ∃ z, W.cell? ⟨gb, s, none⟩ = some (.int .i64 z) := by
              rcases hC.y with h | h
              · obtain ⟨z, hz⟩ : ∃ z, (bo)[s]? = some z := ⟨_, List.getElem?_eq_getElem (by rw [RSS.out.c.lb]; assumption)⟩
                exact ⟨z, h.cell hz⟩
              · obtain ⟨z, hz⟩ : ∃ z, (bo.set s (-1 - (kk : Int)))[s]? = some z := ⟨_, List.getElem?_eq_getElem (by rw [List.length_set, RSS.out.c.lb]; assumption)⟩
                exact ⟨z, h.cell hz⟩
            have kf : ∀ i, W.frozen? ⟨gb, i, none⟩ = false := hC.y.elim (·.frozen) (·.frozen)
            have kl : gb < W.heap.size := hC.y.elim (·.lt) (·.lt)
            have H4 := Lib.hid (show RowI (W.setCell ⟨gb, s, none⟩ (.int .i64 (-1 - (kk : Int)))) gb (bo.set s (-1 - (kk : Int))) from by
              rcases hC.y with h | h
              · exact h.set _ _
              · have := h.set s (-1 - (kk : Int))
                rwa [List.set_set] at this)
            have HC := Lib.hid hC
            clear hN hC
            go_simp
            exact ⟨⟨⟨HC.out.e.setCell hgb _, HC.out.b.far x3 _, HC.out.x.far HXN.out.2.1 _, HC.out.c.imp fun _ h => h.far x1 _, .inr H4.out⟩, ⟨fun h => h.far x1 _, fun _ => H4.out⟩, fun _ h => h.far x1 _⟩, H4.out⟩
          simp only [List.nil_append, List.cons_append]
          repeat (apply tameN_q rfl; (intro ρ W hC hN hr hD; (obtain ⟨hrc, hrg, hrf, hrs⟩ := hr); (simp [go_sem] at hD); go_simp; first | exact ⟨⟨hC, fun h => h, fun _ h => h⟩, rfl⟩ | exact ⟨hC, fun h => h, fun _ h => h⟩ | exact ⟨⟨hC, ⟨fun h => h, fun h => h⟩, fun _ h => h⟩, rfl⟩ | exact ⟨hC, ⟨fun h => h, fun h => h⟩, fun _ h => h⟩ | exact rfl); simp only [List.nil_append, List.cons_append])
          refine tameN_end_put rfl rfl (fun ρ W hC hr hF => ?_)
          simp [go_sem] at hF
          obtain ⟨f1, f2, f3, f4, f5, f6, f7, f8, f9, f10, f11, f12, f13, f14, f15, f16, f17, hc1, f18, hb1⟩ := hF
          simp only [putF, f1, f2, f3, f4, f5, f6, f7, f8, f9, f10, f11, f12, f13, f14, f15, f16, f17, f18, List.set_cons_succ, List.set_cons_zero]
          replace RD := Lib.hid (show RdW w0 b3 gc gb (.slice A nh cp) (.slice (some ⟨b, off, none⟩) nk cp2) (co.set s (P2 - fi)) (bo.set s (-1 - (kk : Int))) W from ⟨hC.e, hC.b, hc1, hb1⟩)
          replace BX := Lib.hid hC.x
          clear f1 f2 f3 f4 f5 f6 f7 f8 f9 f10 f11 f12 f13 f14 f15 f16 f17 f18 hc1 hb1 hC hr mk
          go_wp2
          exact HQ.out _ _ (co.set s (P2 - fi)) (bo.set s (-1 - (kk : Int))) (s : Int) ⟨s, bb, x.bales, fi⟩ y ⟨rfl, rfl, by simp [Act.eval]⟩ RD.out HX.out HY.out (by rw [List.foldl_append, if_pos G1.out]; exact (RSS.out.bwd_yes (x := ⟨s, bb, x.bales, fi⟩) HX.out HP2.out HQ2.out G2.out hfb).mono (by omega))
        · have G1 := Lib.hid g1; have G2 := Lib.hid g2
          have g2d : decide (P2 - fi < Q2) = false := decide_eq_false g2
          refine wp_region_tame (fun W => Ext V2 W) (fun W W' => Ext W W') (by kernel_rfl) 183 rfl (by decide +kernel) (Ext.refl _).drew ?_
          repeat (apply tame_q rfl; (intro ρ W hC hr hD; (obtain ⟨hrc, hrg, hrf, hrs⟩ := hr); (simp [go_sem] at hD); go_simp; first | exact ⟨⟨hC, Ext.refl _⟩, rfl⟩ | exact ⟨⟨hC, RS.refl _⟩, rfl⟩ | exact rfl); simp only [List.nil_append, List.cons_append])
          refine tame_end_put rfl rfl (fun ρ W hC hr hF => ?_)
          simp [go_sem] at hF
          simp only [putF, hF, List.set_cons_succ, List.set_cons_zero]
          clear hF hr
          replace RD := Lib.hid (RD.out.ext hC)
          clear hC m0 m1 m2 m3 m4
          go_wp2
          exact HQ.out _ _ co bo (la) ⟨s, bb, x.bales, fi⟩ y ⟨rfl, rfl, by simp [Act.eval]⟩ RD.out HX.out HY.out (by rw [List.foldl_append, if_pos G1.out]; exact (RSS.out.bwd_no (x := ⟨s, bb, x.bales, fi⟩) HP2.out HQ2.out (by have := G2.out; show ¬ P2 - fi < Q2; omega)).mono (by omega))
      · have G1 := Lib.hid g1
        have g1d : decide (0 < y) = false := decide_eq_false g1
        refine wp_region_tame (fun W => Ext V2 W) (fun W W' => Ext W W') (by kernel_rfl) 183 rfl (by decide +kernel) (Ext.refl _).drew ?_
        repeat (apply tame_q rfl; (intro ρ W hC hr hD; (obtain ⟨hrc, hrg, hrf, hrs⟩ := hr); (simp [go_sem] at hD); go_simp; first | exact ⟨⟨hC, Ext.refl _⟩, rfl⟩ | exact ⟨⟨hC, RS.refl _⟩, rfl⟩ | exact rfl); simp only [List.nil_append, List.cons_append])
        refine tame_end_put rfl rfl (fun ρ W hC hr hF => ?_)
        simp [go_sem] at hF
        simp only [putF, hF, List.set_cons_succ, List.set_cons_zero]
        clear hF hr
        replace RD := Lib.hid (RD.out.ext hC)
        clear hC m0 m1 m2 m3 m4
        go_wp2
        exact HQ.out _ _ co bo (la) ⟨s, bb, x.bales, fi⟩ y ⟨rfl, rfl, by simp [Act.eval]⟩ RD.out HX.out HY.out (by rw [List.foldl_append, if_neg (c := 0 < y) (by have := G1.out; omega)]; exact RSS.out.mono (by omega))
  · have h1d : decide (y < x.bales) = false := decide_eq_false h1
    have RSS := Lib.hid (show RdS (salsAt c f) n (K + 1) cost by' la (((if y < x.bales then [fwd ⟨s, bb, x.bales, fi⟩ kk] else []) : List Arc).foldl relaxL s0) from by rw [if_neg h1]; exact HSS.out.mono (by omega))
    go_wp2
    refine wp_region_tame (fun W => Ext V W) (fun W W' => Ext W W') (by kernel_rfl) 183 rfl (by decide +kernel) (Ext.refl _).drew ?_
    repeat (apply tame_q rfl; (intro ρ W hC hr hD; (obtain ⟨hrc, hrg, hrf, hrs⟩ := hr); (simp [go_sem] at hD); go_simp; first | exact ⟨⟨hC, Ext.refl _⟩, rfl⟩ | exact ⟨⟨hC, RS.refl _⟩, rfl⟩ | exact rfl); simp only [List.nil_append, List.cons_append])
    refine tame_end_put rfl rfl (fun ρ W hC hr hF => ?_)
    simp [go_sem] at hF
    simp only [putF, hF, List.set_cons_succ, List.set_cons_zero]
    clear hF hr
    replace RD := Lib.hid (RD.out.ext hC); replace BX := Lib.hid (BX.out.ext hC)
    clear hC m0 m1 m2 m3 m4
    go_wp2
    generalize cost = co at RD RSS
    generalize by' = bo at RD RSS
    obtain ⟨P2, hP2⟩ : ∃ P, co[bb]? = some P := ⟨_, List.getElem?_eq_getElem (by rw [RSS.out.c.lc]; omega)⟩
    obtain ⟨Q2, hQ2⟩ : ∃ P, co[s]? = some P := ⟨_, List.getElem?_eq_getElem (by rw [RSS.out.c.lc]; omega)⟩
    have hPb2 := RSS.out.w P2 (List.mem_of_getElem? hP2)
    have hQb2 := RSS.out.w Q2 (List.mem_of_getElem? hQ2)
    have HP2 := Lib.hid hP2; have HQ2 := Lib.hid hQ2
    have hw3 : IntKind.i64.wrap (P2 - fi) = P2 - fi := by rw [IntKind.wrap_i64]; omega
    have hw4 : IntKind.i64.wrap (-1 - (kk : Int)) = -1 - (kk : Int) := by rw [IntKind.wrap_i64]; omega
    clear hP2 hQ2
    obtain ⟨V2, hV2⟩ : ∃ V2, V2 = W := ⟨_, rfl⟩
    subst hV2
    have m0 := fun W (h : Ext V2 W) => (BX.out.ext h).c5
    have m1 := fun W (h : Ext V2 W) => HCY.out W (RD.out.e.trans h)
    have m2 := fun W (h : Ext V2 W) => HCK.out W (RD.out.e.trans h)
    have m3 := fun W (h : Ext V2 W) => (RD.out.c.ext h).cell HP2.out
    have m4 := fun W (h : Ext V2 W) => (RD.out.c.ext h).cell HQ2.out
    by_cases g1 : 0 < y
    · by_cases g2 : P2 - fi < Q2
      · have G1 := Lib.hid g1; have G2 := Lib.hid g2
        refine wp_region_tame (fun W => Ext V2 W) (fun W W' => Ext W W') (by kernel_rfl) 183 rfl (by decide +kernel) (Ext.refl _).drew ?_
        repeat (apply tame_q rfl; (intro ρ W hC hr hD; (obtain ⟨hrc, hrg, hrf, hrs⟩ := hr); (simp [go_sem] at hD); go_simp; first | exact ⟨⟨hC, Ext.refl _⟩, rfl⟩ | exact ⟨⟨hC, RS.refl _⟩, rfl⟩ | exact rfl); simp only [List.nil_append, List.cons_append])
        refine tame_end_put rfl rfl (fun ρ W hC hr hF => ?_)
        simp [go_sem] at hF
        simp only [putF, hF, List.set_cons_succ, List.set_cons_zero]
        clear hF hr
        replace RD := Lib.hid (RD.out.ext hC); replace BX := Lib.hid (BX.out.ext hC)
        clear hC m0 m1 m2 m3 m4
        go_wp2
        have mk := fun W (h : StC w0 b3 gc gb wr.heap.size (.slice A nh cp) (.slice (some ⟨b, off, none⟩) nk cp2) #[.int .i64 x.number, .int .i64 x.seller, .int .i64 x.buyer, .int .i64 x.bales, .int .i64 x.price] (bo) (bo.set s (-1 - (kk : Int))) W) => HCK.out W h.e
        refine wp_region_tameN_cut (StC w0 b3 gc gb wr.heap.size (.slice A nh cp) (.slice (some ⟨b, off, none⟩) nk cp2) #[.int .i64 x.number, .int .i64 x.seller, .int .i64 x.buyer, .int .i64 x.bales, .int .i64 x.price] (bo) (bo.set s (-1 - (kk : Int)))) (fun A B => (RowI A gc (co.set s (P2 - fi)) → RowI B gc (co.set s (P2 - fi))) ∧ (RowI A gb (bo.set s (-1 - (kk : Int))) → RowI B gb (bo.set s (-1 - (kk : Int))))) (fun W => RowI W gc co) 17 (by kernel_rfl) 183 rfl _ rfl (by decide +kernel) (by decide +kernel) (by decide +kernel) rfl
          (StC.drew ⟨RD.out.e, RD.out.b, BX.out, ⟨_, RD.out.c⟩, .inl RD.out.y⟩) (RD.out.c.ext (Ext.refl _).drew) ?_
        simp only [List.dropLast]
        repeat (apply tameN_q rfl; (intro ρ W hC hN hr hD; (obtain ⟨hrc, hrg, hrf, hrs⟩ := hr); (simp [go_sem] at hD); go_simp; first | exact ⟨⟨hC, fun h => h, fun _ h => h⟩, rfl⟩ | exact ⟨hC, fun h => h, fun _ h => h⟩ | exact ⟨⟨hC, ⟨fun h => h, fun h => h⟩, fun _ h => h⟩, rfl⟩ | exact ⟨hC, ⟨fun h => h, fun h => h⟩, fun _ h => h⟩ | exact rfl); simp only [List.nil_append, List.cons_append])
        apply tameN_q rfl
        · intro ρ W hC hN hr hD
          obtain ⟨hrc, hrg, hrf, hrs⟩ := hr
          simp [go_sem] at hD
          have k0 := (hN rfl).cell HP2.out
          go_simp
          first | exact ⟨⟨hC, ⟨fun h => h, fun h => h⟩, fun _ h => h⟩, rfl⟩ | exact ⟨hC, ⟨fun h => h, fun h => h⟩, fun _ h => h⟩
        simp only [List.nil_append, List.cons_append]
        repeat (apply tameN_q rfl; (intro ρ W hC hN hr hD; (obtain ⟨hrc, hrg, hrf, hrs⟩ := hr); (simp [go_sem] at hD); go_simp; first | exact ⟨⟨hC, fun h => h, fun _ h => h⟩, rfl⟩ | exact ⟨hC, fun h => h, fun _ h => h⟩ | exact ⟨⟨hC, ⟨fun h => h, fun h => h⟩, fun _ h => h⟩, rfl⟩ | exact ⟨hC, ⟨fun h => h, fun h => h⟩, fun _ h => h⟩ | exact rfl); simp only [List.nil_append, List.cons_append])
        apply tameN_n (fun _ W => RowI W gc (co.set s (P2 - fi))) (fun _ A B _ hR h => hR.1 h)
        · intro ρ W hC hN hr hD
          obtain ⟨hrc, hrg, hrf, hrs⟩ := hr
          simp [go_sem] at hD
          have h0 := hN rfl
          have k0 := h0.cell HQ2.out
          have kf := h0.frozen
          have kl := h0.lt
          have H4 := Lib.hid (h0.set s (P2 - fi)); have HC := Lib.hid hC
          clear h0 hN hC
          go_simp
          exact ⟨⟨⟨HC.out.e.setCell hgc _, HC.out.b.far x2 _, HC.out.x.far HXN.out.1 _, ⟨_, H4.out⟩, HC.out.y.imp (·.far (fun e => x1 e.symm) _) (·.far (fun e => x1 e.symm) _)⟩, ⟨fun _ => H4.out, fun h => h.far (fun e => x1 e.symm) _⟩, fun h => by cases h⟩, H4.out⟩
        simp only [List.nil_append, List.cons_append]
        repeat (apply tameN_q rfl; (intro ρ W hC hN hr hD; (obtain ⟨hrc, hrg, hrf, hrs⟩ := hr); (simp [go_sem] at hD); go_simp; first | exact ⟨⟨hC, fun h => h, fun _ h => h⟩, rfl⟩ | exact ⟨hC, fun h => h, fun _ h => h⟩ | exact ⟨⟨hC, ⟨fun h => h, fun h => h⟩, fun _ h => h⟩, rfl⟩ | exact ⟨hC, ⟨fun h => h, fun h => h⟩, fun _ h => h⟩ | exact rfl); simp only [List.nil_append, List.cons_append])
        apply tameN_n (fun _ W => RowI W gb (bo.set s (-1 - (kk : Int)))) (fun _ A B _ hR h => hR.2 h)
        · intro ρ W hC hN hr hD
          obtain ⟨hrc, hrg, hrf, hrs⟩ := hr
          simp [go_sem] at hD
          obtain ⟨z, k0⟩ : ∃ z, W.cell? ⟨gb, s, none⟩ = some (.int .i64 z) := by
            rcases hC.y with h | h
            · obtain ⟨z, hz⟩ : ∃ z, (bo)[s]? = some z := ⟨_, List.getElem?_eq_getElem (by rw [RSS.out.c.lb]; assumption)⟩
              exact ⟨z, h.cell hz⟩
            · obtain ⟨z, hz⟩ : ∃ z, (bo.set s (-1 - (kk : Int)))[s]? = some z := ⟨_, List.getElem?_eq_getElem (by rw [List.length_set, RSS.out.c.lb]; assumption)⟩
              exact ⟨z, h.cell hz⟩
          have kf : ∀ i, W.frozen? ⟨gb, i, none⟩ = false := hC.y.elim (·.frozen) (·.frozen)
          have kl : gb < W.heap.size := hC.y.elim (·.lt) (·.lt)
          have H4 := Lib.hid (show RowI (W.setCell ⟨gb, s, none⟩ (.int .i64 (-1 - (kk : Int)))) gb (bo.set s (-1 - (kk : Int))) from by
            rcases hC.y with h | h
            · exact h.set _ _
            · have := h.set s (-1 - (kk : Int))
              rwa [List.set_set] at this)
          have HC := Lib.hid hC
          clear hN hC
          go_simp
          exact ⟨⟨⟨HC.out.e.setCell hgb _, HC.out.b.far x3 _, HC.out.x.far HXN.out.2.1 _, HC.out.c.imp fun _ h => h.far x1 _, .inr H4.out⟩, ⟨fun h => h.far x1 _, fun _ => H4.out⟩, fun _ h => h.far x1 _⟩, H4.out⟩
        simp only [List.nil_append, List.cons_append]
        repeat (apply tameN_q rfl; (intro ρ W hC hN hr hD; (obtain ⟨hrc, hrg, hrf, hrs⟩ := hr); (simp [go_sem] at hD); go_simp; first | exact ⟨⟨hC, fun h => h, fun _ h => h⟩, rfl⟩ | exact ⟨hC, fun h => h, fun _ h => h⟩ | exact ⟨⟨hC, ⟨fun h => h, fun h => h⟩, fun _ h => h⟩, rfl⟩ | exact ⟨hC, ⟨fun h => h, fun h => h⟩, fun _ h => h⟩ | exact rfl); simp only [List.nil_append, List.cons_append])
        refine tameN_end_put rfl rfl (fun ρ W hC hr hF => ?_)
        simp [go_sem] at hF
        obtain ⟨f1, f2, f3, f4, f5, f6, f7, f8, f9, f10, f11, f12, f13, f14, f15, f16, f17, hc1, f18, hb1⟩ := hF
        simp only [putF, f1, f2, f3, f4, f5, f6, f7, f8, f9, f10, f11, f12, f13, f14, f15, f16, f17, f18, List.set_cons_succ, List.set_cons_zero]
        replace RD := Lib.hid (show RdW w0 b3 gc gb (.slice A nh cp) (.slice (some ⟨b, off, none⟩) nk cp2) (co.set s (P2 - fi)) (bo.set s (-1 - (kk : Int))) W from ⟨hC.e, hC.b, hc1, hb1⟩)
        replace BX := Lib.hid hC.x
        clear f1 f2 f3 f4 f5 f6 f7 f8 f9 f10 f11 f12 f13 f14 f15 f16 f17 f18 hc1 hb1 hC hr mk
        go_wp2
        exact HQ.out _ _ (co.set s (P2 - fi)) (bo.set s (-1 - (kk : Int))) (s : Int) ⟨s, bb, x.bales, fi⟩ y ⟨rfl, rfl, by simp [Act.eval]⟩ RD.out HX.out HY.out (by rw [List.foldl_append, if_pos G1.out]; exact (RSS.out.bwd_yes (x := ⟨s, bb, x.bales, fi⟩) HX.out HP2.out HQ2.out G2.out hfb).mono (by omega))
      · have G1 := Lib.hid g1; have G2 := Lib.hid g2
        have g2d : decide (P2 - fi < Q2) = false := decide_eq_false g2
        refine wp_region_tame (fun W => Ext V2 W) (fun W W' => Ext W W') (by kernel_rfl) 183 rfl (by decide +kernel) (Ext.refl _).drew ?_
        repeat (apply tame_q rfl; (intro ρ W hC hr hD; (obtain ⟨hrc, hrg, hrf, hrs⟩ := hr); (simp [go_sem] at hD); go_simp; first | exact ⟨⟨hC, Ext.refl _⟩, rfl⟩ | exact ⟨⟨hC, RS.refl _⟩, rfl⟩ | exact rfl); simp only [List.nil_append, List.cons_append])
        refine tame_end_put rfl rfl (fun ρ W hC hr hF => ?_)
        simp [go_sem] at hF
        simp only [putF, hF, List.set_cons_succ, List.set_cons_zero]
        clear hF hr
        replace RD := Lib.hid (RD.out.ext hC)
        clear hC m0 m1 m2 m3 m4
        go_wp2
        exact HQ.out _ _ co bo (la) ⟨s, bb, x.bales, fi⟩ y ⟨rfl, rfl, by simp [Act.eval]⟩ RD.out HX.out HY.out (by rw [List.foldl_append, if_pos G1.out]; exact (RSS.out.bwd_no (x := ⟨s, bb, x.bales, fi⟩) HP2.out HQ2.out (by have := G2.out; show ¬ P2 - fi < Q2; omega)).mono (by omega))
    · have G1 := Lib.hid g1
      have g1d : decide (0 < y) = false := decide_eq_false g1
      refine wp_region_tame (fun W => Ext V2 W) (fun W W' => Ext W W') (by kernel_rfl) 183 rfl (by decide +kernel) (Ext.refl _).drew ?_
      repeat (apply tame_q rfl; (intro ρ W hC hr hD; (obtain ⟨hrc, hrg, hrf, hrs⟩ := hr); (simp [go_sem] at hD); go_simp; first | exact ⟨⟨hC, Ext.refl _⟩, rfl⟩ | exact ⟨⟨hC, RS.refl _⟩, rfl⟩ | exact rfl); simp only [List.nil_append, List.cons_append])
      refine tame_end_put rfl rfl (fun ρ W hC hr hF => ?_)
      simp [go_sem] at hF
      simp only [putF, hF, List.set_cons_succ, List.set_cons_zero]
      clear hF hr
      replace RD := Lib.hid (RD.out.ext hC)
      clear hC m0 m1 m2 m3 m4
      go_wp2
      exact HQ.out _ _ co bo (la) ⟨s, bb, x.bales, fi⟩ y ⟨rfl, rfl, by simp [Act.eval]⟩ RD.out HX.out HY.out (by rw [List.foldl_append, if_neg (c := 0 < y) (by have := G1.out; omega)]; exact RSS.out.mono (by omega))
end Go.Proofs.YtafdbgielmlihaaDoor
/- The reference's round, part two: the passes. -/
namespace Go.Proofs.YtafdbgielmlihaaDoor
open Go.RowKit Go.Shelf Go.Lib
set_option maxRecDepth 100000
set_option linter.unusedSimpArgs false

set_option maxHeartbeats 4000000 in
theorem pass2_wp {c : Chn} {f : Nat → Int} {Ks M cost by' : List Int} {s0 : BF × Option Nat} {la K : Int} {b3 gc gb n k : Nat} {A : Option Addr} {nh cp : Nat} {A2 : Option Addr} {n2 cp2 : Nat} {kv mv : Value} {w0 wr : World} {a0 : Act} {Q : Exit → Act → World → Prop}
    (hR : Right c) (hl : c.sales.length ≤ 100) (hn : n = c.houses.length) (hKs : ∀ i y, Ks[i]? = some y → y = f i) (hKl : Ks.length = c.sales.length) (hKb : ∀ i, -20000000000000 ≤ f i ∧ f i ≤ 20000000000000) (hml : M.length = c.sales.length) (hK0 : 0 ≤ K) (hK1 : K + 2 * c.sales.length ≤ 1000)
    (hF : Fr 183 [(1, kv), (2, mv), (3, .pointer (some ⟨b3, 0, none⟩)), (7, .int .i64 (n : Int)), (8, .slice (some ⟨gc, 0, none⟩) n n), (9, .slice (some ⟨gb, 0, none⟩) n n), (11, .int .i64 (k : Int))] [] a0)
    (hh : SlI w0 (.slice A nh cp) c.houses) (hs : SlL w0 (.slice A2 n2 cp2) c.sales) (hm : SlI w0 mv M) (hk : SlI w0 kv Ks) (hgc : w0.heap.size ≤ gc) (hgb : w0.heap.size ≤ gb) (hb3 : w0.heap.size ≤ b3) (x1 : gc ≠ gb) (x2 : b3 ≠ gc) (x3 : b3 ≠ gb)
    (hW : RdW w0 b3 gc gb (.slice A nh cp) (.slice A2 n2 cp2) cost by' wr) (hS : RdS (salsAt c f) n K cost by' la s0)
    (hQ : ∀ A' W' cost1 by1 la1, Fr 183 [(1, kv), (2, mv), (3, .pointer (some ⟨b3, 0, none⟩)), (7, .int .i64 (n : Int)), (8, .slice (some ⟨gc, 0, none⟩) n n), (9, .slice (some ⟨gb, 0, none⟩) n n), (10, .int .i64 la1), (11, .int .i64 (k : Int))] [] A' →
      RdW w0 b3 gc gb (.slice A nh cp) (.slice A2 n2 cp2) cost1 by1 W' → RdS (salsAt c f) n (K + 2 * c.sales.length) cost1 by1 la1 ((resArcs 0 (salsAt c f) M).foldl relaxL (s0.1, none)) → Q .normal A' W') :
    (subC [1, 1, 1, 1, 1, 0, 1, 2, 3, 1, 0] (Tryd.f113.body.getD .skip)).wp Tryd.prog Q a0 wr := by
  have hsl2 : n2 = c.sales.length := by
    obtain ⟨A', n', cp', e2, hn2, hlc2, hcm2⟩ := hs.form
    injection e2 with e2 e3 e4
    subst e2 e3 e4
    exact (show _ = _ from by have := hn2.out; omega)
  have HR := Lib.hid hR; have HSL := Lib.hid hsl2; have HN := Lib.hid hn; have HKS := Lib.hid hKs; have HKL := Lib.hid hKl; have HKB := Lib.hid hKb; have HML := Lib.hid hml; have HH := Lib.hid hh; have HS := Lib.hid hs; have HM := Lib.hid hm; have HK := Lib.hid hk; have HW := Lib.hid hW; have HSS := Lib.hid hS; have HQ := Lib.hid hQ
  have b2c := hW.b.c2
  have hn2 : n2 ≤ 100 := by omega
  clear hR hn hKs hKl hKb hml hh hs hm hk hW hS hQ hsl2
  delta Tryd.f113
  simp only [subC, Option.getD_some]
  obtain ⟨ρ, rfl, hρ⟩ := hF.open_
  simp only [List.forall_mem_cons] at hρ
  obtain ⟨r1, r2, r3, r7, r8, r9, r11, -⟩ := hρ
  simp only [lst, Nat.reduceAdd, r1, r2, r3, r7, r8, r9, r11]
  clear r1 r2 r3 r7 r8 r9 r11 hF
  go_wp2
  refine wp_loop_ghost_k (fun g A' W => ∃ (kk : Nat) (co bo : List Int) (l1 : Int), kk ≤ n2 ∧ n2 - kk ≤ g ∧ Fr 183 [(1, kv), (2, mv), (3, .pointer (some ⟨b3, 0, none⟩)), (7, .int .i64 (n : Int)), (8, .slice (some ⟨gc, 0, none⟩) n n), (9, .slice (some ⟨gb, 0, none⟩) n n), (10, .int .i64 l1), (11, .int .i64 (k : Int)), (33, .slice A2 n2 cp2), (34, .int .i64 (n2 : Int)), (35, .int .i64 (kk : Int))] [] A' ∧
    RdW w0 b3 gc gb (.slice A nh cp) (.slice A2 n2 cp2) co bo W ∧ RdS (salsAt c f) n (K + 2 * kk) co bo l1 ((resTo (salsAt c f) M kk).foldl relaxL (s0.1, none))) n2 ?_ ?_
  · exact ⟨0, cost, by', -1, by omega, by omega, ⟨rfl, rfl, by simp [Act.eval]⟩, HW.out, ⟨HSS.out.c, rfl, HSS.out.w.mono (by omega)⟩⟩
  · rintro g A' W ⟨kk, co, bo, l1, hkk, hg, hF, hW, hS⟩ J K' hJ hK
    have HJ := Lib.hid hJ; have HF := Lib.hid hF; have HW1 := Lib.hid hW; have HS1 := Lib.hid hS
    obtain ⟨ρ, rfl, hρ⟩ := hF.open_
    simp only [List.forall_mem_cons] at hρ
    obtain ⟨r1, r2, r3, r7, r8, r9, r10, r11, r33, r34, r35, -⟩ := hρ
    simp only [lst, Nat.reduceAdd, r1, r2, r3, r7, r8, r9, r10, r11, r33, r34, r35]
    clear r1 r2 r3 r7 r8 r9 r10 r11 r33 r34 r35 hF hW hS hJ HF b2c HW
    by_cases hlt : kk < n2
    · have hltz : (kk : Int) < (n2 : Int) := by omega
      go_upto_block 3 with (fail)
      refine sale_wp (c := c) (f := f) (Ks := Ks) (M := M) (cost := co) (by' := bo) (la := l1) (K := K + 2 * kk) (n := n) (k := k) (kk := kk) HR.out (by omega) HN.out HKS.out HKL.out HKB.out HML.out hlt (by omega) (by have := HSL.out; omega) ⟨rfl, rfl, by simp [Act.eval]⟩ HH.out HS.out HM.out HK.out hgc hgb hb3 x1 x2 x3 HW1.out HS1.out ?_
      intro A1 W1 co1 bo1 l2 x y hF1 hW1 hx hy hS1
      have HW2 := Lib.hid hW1
      have HS2 := Lib.hid (show RdS (salsAt c f) n (K + 2 * ((kk + 1 : Nat) : Int)) co1 bo1 l2 ((resTo (salsAt c f) M (kk + 1)).foldl relaxL (s0.1, none)) by
        rw [resTo_succ hx hy, List.foldl_append]
        exact hS1.mono (by omega))
      clear hW1 hx hy hS1
      obtain ⟨ρ, rfl, hρ⟩ := hF1.open_
      simp only [List.forall_mem_cons] at hρ
      obtain ⟨r1, r2, r3, r7, r8, r9, r10, r11, r33, r34, r35, -⟩ := hρ
      simp only [lst, Nat.reduceAdd, r1, r2, r3, r7, r8, r9, r10, r11, r33, r34, r35]
      clear r1 r2 r3 r7 r8 r9 r10 r11 r33 r34 r35 hF1
      go_wp2
      exact Handed.intro (n2 - (kk + 1)) (by omega) (HJ.out _ _ _ ⟨kk + 1, co1, bo1, l2, by omega, Nat.le_refl _, ⟨rfl, rfl, by simp [Act.eval]⟩, HW2.out, HS2.out⟩)
    · have HE := Lib.hid (show kk = n2 by omega)
      go_wp2
      refine HQ.out _ _ co bo l1 ⟨rfl, rfl, by simp [Act.eval]⟩ HW1.out ?_
      have := HS1.out
      rw [HE.out, HSL.out, resTo_all (by rw [at_len]; omega) (by rw [HML.out]; omega)] at this
      exact this
set_option maxHeartbeats 4000000 in
theorem passes2_wp {c : Chn} {f : Nat → Int} {Ks M : List Int} {b3 gc gb n : Nat} {A : Option Addr} {nh cp : Nat} {A2 : Option Addr} {n2 cp2 : Nat} {kv mv : Value} {w0 wr : World} {a0 : Act} {Q : Exit → Act → World → Prop}
    (hR : Right c) (hl : c.sales.length ≤ 40) (hn : n = c.houses.length) (hKs : ∀ i y, Ks[i]? = some y → y = f i) (hKl : Ks.length = c.sales.length) (hKb : ∀ i, -20000000000000 ≤ f i ∧ f i ≤ 20000000000000) (hml : M.length = c.sales.length)
    (hF : Fr 183 [(1, kv), (2, mv), (3, .pointer (some ⟨b3, 0, none⟩)), (7, .int .i64 (n : Int)), (8, .slice (some ⟨gc, 0, none⟩) n n), (9, .slice (some ⟨gb, 0, none⟩) n n), (10, .int .i64 (-1)), (11, .int .i64 0)] [] a0)
    (hh : SlI w0 (.slice A nh cp) c.houses) (hs : SlL w0 (.slice A2 n2 cp2) c.sales) (hm : SlI w0 mv M) (hk : SlI w0 kv Ks) (hgc : w0.heap.size ≤ gc) (hgb : w0.heap.size ≤ gb) (hb3 : w0.heap.size ≤ b3) (x1 : gc ≠ gb) (x2 : b3 ≠ gc) (x3 : b3 ≠ gb)
    (hW : RdW w0 b3 gc gb (.slice A nh cp) (.slice A2 n2 cp2) (List.replicate n 0) (List.replicate n 0) wr)
    (hQ : ∀ A' W' cost1 by1 la1, Fr 183 [(1, kv), (2, mv), (3, .pointer (some ⟨b3, 0, none⟩)), (7, .int .i64 (n : Int)), (8, .slice (some ⟨gc, 0, none⟩) n n), (9, .slice (some ⟨gb, 0, none⟩) n n), (10, .int .i64 la1)] [] A' →
      RdW w0 b3 gc gb (.slice A nh cp) (.slice A2 n2 cp2) cost1 by1 W' → RdS (salsAt c f) n 1000 cost1 by1 la1 (roundS (resArcs 0 (salsAt c f) M) (n + 1)) → Q .normal A' W') :
    (subC [1, 1, 1, 1, 1, 0, 1] (Tryd.f113.body.getD .skip)).wp Tryd.prog Q a0 wr := by
  have HR := Lib.hid hR; have HL := Lib.hid hl; have HN := Lib.hid hn; have HKS := Lib.hid hKs; have HKL := Lib.hid hKl; have HKB := Lib.hid hKb; have HML := Lib.hid hml; have HH := Lib.hid hh; have HS := Lib.hid hs; have HM := Lib.hid hm; have HK := Lib.hid hk; have HW := Lib.hid hW; have HQ := Lib.hid hQ
  have hn6 : n ≤ 6 := by have := hR.h6; omega
  clear hR hl hn hKs hKl hKb hml hh hs hm hk hW hQ
  delta Tryd.f113
  simp only [subC, Option.getD_some]
  obtain ⟨ρ, rfl, hρ⟩ := hF.open_
  simp only [List.forall_mem_cons] at hρ
  obtain ⟨r1, r2, r3, r7, r8, r9, r10, r11, -⟩ := hρ
  simp only [lst, Nat.reduceAdd, r1, r2, r3, r7, r8, r9, r10, r11]
  clear r1 r2 r3 r7 r8 r9 r10 r11 hF
  go_wp2
  refine wp_loop_ghost_k (fun g A' W => ∃ (k : Nat) (co bo : List Int) (l1 : Int), k ≤ n + 1 ∧ n + 1 - k ≤ g ∧ Fr 183 [(1, kv), (2, mv), (3, .pointer (some ⟨b3, 0, none⟩)), (7, .int .i64 (n : Int)), (8, .slice (some ⟨gc, 0, none⟩) n n), (9, .slice (some ⟨gb, 0, none⟩) n n), (10, .int .i64 l1), (11, .int .i64 (k : Int))] [] A' ∧
    RdW w0 b3 gc gb (.slice A nh cp) (.slice A2 n2 cp2) co bo W ∧ RdS (salsAt c f) n ((k : Int) * 100) co bo l1 (roundS (resArcs 0 (salsAt c f) M) k)) (n + 1) ?_ ?_
  · exact ⟨0, _, _, -1, by omega, by omega, ⟨rfl, rfl, by simp [Act.eval]⟩, HW.out, ⟨CorrI.init _ _, rfl, fun y hy => by have := List.eq_of_mem_replicate hy; omega⟩⟩
  · rintro g A' W ⟨k, co, bo, l1, hk, hg, hF, hW, hS⟩ J K' hJ hK
    have HJ := Lib.hid hJ; have HW1 := Lib.hid hW; have HS1 := Lib.hid hS
    obtain ⟨ρ, rfl, hρ⟩ := hF.open_
    simp only [List.forall_mem_cons] at hρ
    obtain ⟨r1, r2, r3, r7, r8, r9, r10, r11, -⟩ := hρ
    simp only [lst, Nat.reduceAdd, r1, r2, r3, r7, r8, r9, r10, r11]
    clear r1 r2 r3 r7 r8 r9 r10 r11 hF hW hS hJ
    by_cases hlt : k ≤ n
    · have hltz : (k : Int) ≤ (n : Int) := by omega
      go_upto_block 1 with (fail)
      refine pass2_wp (c := c) (f := f) (Ks := Ks) (M := M) (cost := co) (by' := bo) (la := l1) (K := (k : Int) * 100) (n := n) (k := k) HR.out (by have := HL.out; omega) HN.out HKS.out HKL.out HKB.out HML.out (by omega) (by have := HL.out; omega) ⟨rfl, rfl, by simp [Act.eval]⟩ HH.out HS.out HM.out HK.out hgc hgb hb3 x1 x2 x3 HW1.out HS1.out ?_
      intro A1 W1 co1 bo1 l2 hF1 hW1 hS1
      have HW2 := Lib.hid hW1
      have HS2 := Lib.hid (show RdS (salsAt c f) n (((k + 1 : Nat) : Int) * 100) co1 bo1 l2 (roundS (resArcs 0 (salsAt c f) M) (k + 1)) from hS1.mono (by have := HL.out; omega))
      clear hW1 hS1
      obtain ⟨ρ, rfl, hρ⟩ := hF1.open_
      simp only [List.forall_mem_cons] at hρ
      obtain ⟨r1, r2, r3, r7, r8, r9, r10, r11, -⟩ := hρ
      simp only [lst, Nat.reduceAdd, r1, r2, r3, r7, r8, r9, r10, r11]
      clear r1 r2 r3 r7 r8 r9 r10 r11 hF1
      go_wp2
      exact Handed.intro (n + 1 - (k + 1)) (by omega) (HJ.out _ _ _ ⟨k + 1, co1, bo1, l2, by omega, Nat.le_refl _, ⟨rfl, rfl, by simp [Act.eval]⟩, HW2.out, HS2.out⟩)
    · have HE := Lib.hid (show k = n + 1 by omega)
      have hgt : ¬ (k : Int) ≤ (n : Int) := by omega
      go_wp2
      refine HQ.out _ _ co bo l1 ⟨rfl, rfl, by simp [Act.eval]⟩ HW1.out ?_
      have := HS1.out
      rw [HE.out] at this
      exact this.mono (by omega)
end Go.Proofs.YtafdbgielmlihaaDoor
/- The reference's round, part three: back to the ring, and round it. -/
namespace Go.Proofs.YtafdbgielmlihaaDoor
open Go.RowKit Go.Shelf Go.Lib
set_option maxRecDepth 100000
set_option linter.unusedSimpArgs false

set_option maxHeartbeats 4000000 in
theorem back4_wp {c : Chn} {f : Nat → Int} {cost by' : List Int} {σ : BF} {b3 gc gb n v u : Nat} {A : Option Addr} {nh cp : Nat} {A2 : Option Addr} {n2 cp2 : Nat} {w0 wr : World} {a0 : Act} {Q : Exit → Act → World → Prop}
    (hR : Right c) (hl : c.sales.length ≤ 1000) (hC : CorrI (salsAt c f) n cost by' σ) (hb : backK σ.p n v = some u) (hlt : ∀ j x, backK σ.p j v = some x → x < n) (hn : n ≤ 6)
    (hF : Fr 183 [(3, .pointer (some ⟨b3, 0, none⟩)), (7, .int .i64 (n : Int)), (9, .slice (some ⟨gb, 0, none⟩) n n), (10, .int .i64 (v : Int)), (16, .int .i64 0)] [] a0)
    (hh : SlI w0 (.slice A nh cp) c.houses) (hs : SlL w0 (.slice A2 n2 cp2) c.sales) (hW : RdW w0 b3 gc gb (.slice A nh cp) (.slice A2 n2 cp2) cost by' wr)
    (hQ : ∀ A' W', Fr 183 [(3, .pointer (some ⟨b3, 0, none⟩)), (7, .int .i64 (n : Int)), (9, .slice (some ⟨gb, 0, none⟩) n n), (10, .int .i64 (u : Int))] [] A' →
      RdW w0 b3 gc gb (.slice A nh cp) (.slice A2 n2 cp2) cost by' W' → Q .normal A' W') :
    (subC [1, 1, 1, 1, 1, 1, 1, 0, 1] (Tryd.f113.body.getD .skip)).wp Tryd.prog Q a0 wr := by
  have HR := Lib.hid hR; have HC := Lib.hid hC; have HB := Lib.hid hb; have HLT := Lib.hid hlt; have HH := Lib.hid hh; have HS := Lib.hid hs; have HW := Lib.hid hW; have HQ := Lib.hid hQ
  clear hR hC hb hlt hh hs hW hQ
  delta Tryd.f113
  simp only [subC, Option.getD_some]
  obtain ⟨ρ, rfl, hρ⟩ := hF.open_
  simp only [List.forall_mem_cons] at hρ
  obtain ⟨r3, r7, r9, r10, r16, -⟩ := hρ
  simp only [lst, Nat.reduceAdd, r3, r7, r9, r10, r16]
  clear r3 r7 r9 r10 r16 hF
  go_wp2
  refine wp_loop_ghost_k (fun g A' W => ∃ (j x : Nat), j ≤ n ∧ n - j ≤ g ∧ backK σ.p j v = some x ∧ Fr 183 [(3, .pointer (some ⟨b3, 0, none⟩)), (7, .int .i64 (n : Int)), (9, .slice (some ⟨gb, 0, none⟩) n n), (10, .int .i64 (x : Int)), (16, .int .i64 (j : Int))] [] A' ∧
    RdW w0 b3 gc gb (.slice A nh cp) (.slice A2 n2 cp2) cost by' W) n ?_ ?_
  · exact ⟨0, v, by omega, by omega, rfl, ⟨rfl, rfl, by simp [Act.eval]⟩, HW.out⟩
  · rintro g A' W ⟨j, x, hj, hg, hx, hF, hW⟩ J K' hJ hK
    have HJ := Lib.hid hJ; have RD := Lib.hid hW; have HX := Lib.hid hx
    obtain ⟨ρ, rfl, hρ⟩ := hF.open_
    simp only [List.forall_mem_cons] at hρ
    obtain ⟨r3, r7, r9, r10, r16, -⟩ := hρ
    simp only [lst, Nat.reduceAdd, r3, r7, r9, r10, r16]
    clear r3 r7 r9 r10 r16 hF hW hJ hx HW
    by_cases hjn : j < n
    · have hjz : (j : Int) < (n : Int) := by omega
      obtain ⟨a, ha⟩ := back_more HX.out HB.out hjn
      have hxn := HLT.out j x HX.out
      have hxz : (x : Int) < (n : Int) := by omega
      obtain ⟨b, hb⟩ : ∃ b, by'[x]? = some b := ⟨_, List.getElem?_eq_getElem (by rw [HC.out.lb]; exact hxn)⟩
      have HAB := Lib.hid (show arcT (salsAt c f) b = some a by rw [← HC.out.p x b hb]; exact ha)
      have HX2 := Lib.hid (back_snoc HX.out ha)
      have HBB := Lib.hid hb
      clear ha hb
      obtain ⟨V, hV⟩ : ∃ V, V = W := ⟨_, rfl⟩
      subst hV
      have m0 := fun W (h : Ext V W) => (RD.out.b.ext h).c2
      have m1 := fun W (h : Ext V W) => (RD.out.y.ext h).cell HBB.out
      go_wp2
      refine wp_region_tame_cut (fun W => Ext V W) (fun W W' => Ext W W') (by kernel_rfl) 183 rfl _ rfl (by decide +kernel) (by decide +kernel) (by decide +kernel) rfl (Ext.refl _).drew ?_
      simp only [List.dropLast]
      repeat (apply tame_q rfl; (intro ρ W hC hr hD; (obtain ⟨hrc, hrg, hrf, hrs⟩ := hr); (simp [go_sem] at hD); go_simp; first | exact ⟨⟨hC, Ext.refl _⟩, rfl⟩ | exact ⟨⟨hC, RS.refl _⟩, rfl⟩ | exact rfl); simp only [List.nil_append, List.cons_append])
      apply tame_q rfl
      · intro ρ W hC hr hD
        obtain ⟨hrc, hrg, hrf, hrs⟩ := hr
        simp [go_sem] at hD
        go_simp
        refine (behind_any c f b a _ _ W HAB.out HR.out hl (HH.out.ext (RD.out.e.trans hC)) (HS.out.ext (RD.out.e.trans hC))).mono ?_
        rintro e w' ⟨rfl, hE⟩
        exact ⟨_, rfl, ⟨hC.trans hE, hE⟩, rfl⟩
      simp only [List.nil_append, List.cons_append]
      repeat (apply tame_q rfl; (intro ρ W hC hr hD; (obtain ⟨hrc, hrg, hrf, hrs⟩ := hr); (simp [go_sem] at hD); go_simp; first | exact ⟨⟨hC, Ext.refl _⟩, rfl⟩ | exact ⟨⟨hC, RS.refl _⟩, rfl⟩ | exact rfl); simp only [List.nil_append, List.cons_append])
      refine tame_end_put rfl rfl (fun ρ W hC hr hF => ?_)
      simp [go_sem] at hF
      simp only [putF, hF, List.set_cons_succ, List.set_cons_zero]
      clear hF hr
      replace RD := Lib.hid (RD.out.ext hC)
      clear hC m0 m1
      go_wp2
      exact Handed.intro (n - (j + 1)) (by omega) (HJ.out _ _ _ ⟨j + 1, a.src, by omega, Nat.le_refl _, HX2.out, ⟨rfl, rfl, by simp [Act.eval]⟩, RD.out⟩)
    · have HE := Lib.hid (show j = n by omega)
      have hxu : x = u := by
        have := HX.out
        rw [HE.out, HB.out] at this
        injection this with this
        exact this.symm
      subst hxu
      go_wp2
      exact HQ.out _ _ ⟨rfl, rfl, by simp [Act.eval]⟩ RD.out

/-- Memory while one goes round. -/
structure RgW (w0 : World) (b3 gc gb go : Nat) (hv sv : Value) (cost by' z : List Int) (W : World) : Prop where
  r : RdW w0 b3 gc gb hv sv cost by' W
  o : RowI W go z
theorem RgW.ext {w0 : World} {b3 gc gb go : Nat} {hv sv : Value} {cost by' z : List Int} {W W' : World} (h : RgW w0 b3 gc gb go hv sv cost by' z W) (k : Ext W W') : RgW w0 b3 gc gb go hv sv cost by' z W' :=
  ⟨h.r.ext k, h.o.ext k⟩
theorem RgW.set {w0 : World} {b3 gc gb go : Nat} {hv sv : Value} {cost by' z : List Int} {W : World} (h : RgW w0 b3 gc gb go hv sv cost by' z W) (hg : w0.heap.size ≤ go) (x1 : b3 ≠ go) (x2 : gc ≠ go) (x3 : gb ≠ go) (i : Nat) (x : Int) :
    RgW w0 b3 gc gb go hv sv cost by' (z.set i x) (W.setCell ⟨go, i, none⟩ (.int .i64 x)) :=
  ⟨⟨h.r.e.setCell hg _, h.r.b.far x1 _, h.r.c.far x2 _, h.r.y.far x3 _⟩, h.o.set i x⟩
set_option maxHeartbeats 4000000 in
theorem ring6_wp {c : Chn} {f : Nat → Int} {cost by' : List Int} {σ : BF} {b3 gc gb go n N u t : Nat} {A : Option Addr} {nh cp : Nat} {A2 : Option Addr} {n2 cp2 : Nat} {w0 wr : World} {a0 : Act} {Q : Exit → Act → World → Prop}
    (hR : Right c) (hl : c.sales.length ≤ 1000) (hN : N = c.sales.length) (hC : CorrI (salsAt c f) n cost by' σ) (hlt : ∀ j x, backK σ.p j u = some x → x < n) (hn : n ≤ 6) (ht0 : 0 < t) (htn : t ≤ n) (hb : backK σ.p t u = some u) (hm : ∀ j, 0 < j → j < t → backK σ.p j u ≠ some u)
    (hF : Fr 183 [(3, .pointer (some ⟨b3, 0, none⟩)), (9, .slice (some ⟨gb, 0, none⟩) n n), (10, .int .i64 (u : Int)), (17, .slice (some ⟨go, 0, none⟩) N N), (18, .int .i64 (u : Int)), (19, .bool true)] [] a0)
    (hh : SlI w0 (.slice A nh cp) c.houses) (hs : SlL w0 (.slice A2 n2 cp2) c.sales) (hg : w0.heap.size ≤ go) (x1 : b3 ≠ go) (x2 : gc ≠ go) (x3 : gb ≠ go) (hW : RgW w0 b3 gc gb go (.slice A nh cp) (.slice A2 n2 cp2) cost by' (List.replicate N 0) wr)
    (hQ : ∀ A' W', Fr 183 [(17, .slice (some ⟨go, 0, none⟩) N N)] [] A' →
      RgW w0 b3 gc gb go (.slice A nh cp) (.slice A2 n2 cp2) cost by' (walked (List.replicate N 0) (chainArcs σ.p t u)) W' → Q .normal A' W') :
    (subC [1, 1, 1, 1, 1, 1, 1, 1, 1, 1, 0, 1] (Tryd.f113.body.getD .skip)).wp Tryd.prog Q a0 wr := by
  have HR := Lib.hid hR; have HC := Lib.hid hC; have HT := Lib.hid hb; have HM := Lib.hid hm; have HLT := Lib.hid hlt; have HH := Lib.hid hh; have HS := Lib.hid hs; have HW := Lib.hid hW; have HQ := Lib.hid hQ; have HN := Lib.hid hN
  have hN1 : N ≤ 1000 := by omega
  clear hR hC hb hlt hh hs hW hQ hm hN
  delta Tryd.f113
  simp only [subC, Option.getD_some]
  obtain ⟨ρ, rfl, hρ⟩ := hF.open_
  simp only [List.forall_mem_cons] at hρ
  obtain ⟨r3, r9, r10, r17, r18, r19, -⟩ := hρ
  simp only [lst, Nat.reduceAdd, r3, r9, r10, r17, r18, r19]
  clear r3 r9 r10 r17 r18 r19 hF
  go_wp2
  refine wp_loop_ghost_k (fun g A' W => ∃ (j x : Nat), j ≤ t ∧ t - j ≤ g ∧ backK σ.p j u = some x ∧ Fr 183 [(3, .pointer (some ⟨b3, 0, none⟩)), (9, .slice (some ⟨gb, 0, none⟩) n n), (10, .int .i64 (u : Int)), (17, .slice (some ⟨go, 0, none⟩) N N), (18, .int .i64 (x : Int)), (19, .bool (decide (j < t)))] [] A' ∧
    RgW w0 b3 gc gb go (.slice A nh cp) (.slice A2 n2 cp2) cost by' (walked (List.replicate N 0) (chainArcs σ.p j u)) W) t ?_ ?_
  · exact ⟨0, u, by omega, by omega, rfl, ⟨rfl, rfl, by simp [Act.eval, ht0]⟩, HW.out⟩
  · rintro g A' W ⟨j, x, hj, hgm, hx, hF, hW⟩ J K' hJ hK
    have HJ := Lib.hid hJ; have RD := Lib.hid hW; have HX := Lib.hid hx
    obtain ⟨ρ, rfl, hρ⟩ := hF.open_
    simp only [List.forall_mem_cons] at hρ
    obtain ⟨r3, r9, r10, r17, r18, r19, -⟩ := hρ
    simp only [lst, Nat.reduceAdd, r3, r9, r10, r17, r18, r19]
    clear r3 r9 r10 r17 r18 r19 hF hW hJ hx HW
    by_cases hjn : j < t
    · have hjd : decide (j < t) = true := decide_eq_true hjn
      obtain ⟨a, ha⟩ := back_more HX.out HT.out hjn
      have hxn := HLT.out j x HX.out
      have hxz : (x : Int) < (n : Int) := by omega
      obtain ⟨b, hb⟩ : ∃ b, by'[x]? = some b := ⟨_, List.getElem?_eq_getElem (by rw [HC.out.lb]; exact hxn)⟩
      have hab : arcT (salsAt c f) b = some a := by rw [← HC.out.p x b hb]; exact ha
      have HAB := Lib.hid hab
      have HX2 := Lib.hid (back_snoc HX.out ha)
      have HWK := Lib.hid (show walked (List.replicate N 0) (chainArcs σ.p (j + 1) u) = stepM (walked (List.replicate N 0) (chainArcs σ.p j u)) a by rw [chain_snoc j u x a HX.out ha, walked_snoc])
      have HBB := Lib.hid hb
      have HZL := Lib.hid (show (walked (List.replicate N 0) (chainArcs σ.p j u)).length = N by rw [walked_len']; simp)
      have HZB := Lib.hid (fun y (hy : y ∈ walked (List.replicate N 0) (chainArcs σ.p j u)) => (show -1000 ≤ y ∧ y ≤ 1000 by
        have h1 := walked_bd (B := 0) (chainArcs σ.p j u) (m := List.replicate N 0) (fun y hy => by have := List.eq_of_mem_replicate hy; omega) y hy
        have h2 := chain_len σ.p j u
        omega))
      clear ha hb
      obtain ⟨q0, qf, ql⟩ : W.cell? ⟨gb, x, none⟩ = some (.int .i64 b) ∧ (∀ i, W.frozen? ⟨gb, i, none⟩ = false) ∧ gb < W.heap.size := ⟨RD.out.r.y.cell HBB.out, RD.out.r.y.frozen, RD.out.r.y.lt⟩
      have of := RD.out.o.frozen
      have ol := RD.out.o.lt
      unfold arcT at hab
      by_cases hb0 : 0 < b
      · rw [if_pos hb0] at hab
        obtain ⟨X, hX, hXa⟩ := Option.map_eq_some_iff.1 hab
        obtain ⟨i, hi⟩ : ∃ i : Nat, (b - 1).toNat = i := ⟨_, rfl⟩
        rw [hi] at hX hXa
        have hiN : i < N := by have h1 := (List.getElem?_eq_some_iff.1 hX).1; rw [at_len] at h1; have := HN.out; omega
        have hbe : b = (i : Int) + 1 := by omega
        obtain ⟨y, hy⟩ : ∃ y, (walked (List.replicate N 0) (chainArcs σ.p j u))[i]? = some y := ⟨_, List.getElem?_eq_getElem (by rw [HZL.out]; exact hiN)⟩
        have hyb := HZB.out y (List.mem_of_getElem? hy)
        have o0 := RD.out.o.cell hy
        have HST := Lib.hid (show walked (List.replicate N 0) (chainArcs σ.p (j + 1) u) = (walked (List.replicate N 0) (chainArcs σ.p j u)).set i (y + 1) by rw [HWK.out, ← hXa, step_fwd, bump_set hy])
        have hiz : (i : Int) < (N : Int) := by omega
        have hw0 : IntKind.i64.wrap ((i : Int) + 1 - 1) = (i : Int) := by rw [IntKind.wrap_i64]; omega
        have hw00 : IntKind.i64.wrap (i : Int) = (i : Int) := by rw [IntKind.wrap_i64]; omega
        have hw1 : IntKind.i64.wrap (y + 1) = y + 1 := by rw [IntKind.wrap_i64]; omega
        subst hbe
        have hz0 : (0 : Int) < (i : Int) + 1 := hb0
        clear hab hX hXa hi hy
        go_wp2
        have RN := Lib.hid (RD.out.set hg x1 x2 x3 i (y + 1))
        rw [← HST.out] at RN
        clear RD
        have RD := RN
        clear RN
        generalize W.setCell _ _ = W1 at *
        obtain ⟨b, hbe⟩ : ∃ b, b = (i : Int) + 1 := ⟨_, rfl⟩
        rw [← hbe] at HBB HAB; clear hbe
        clear q0 qf ql of ol o0
        obtain ⟨V2, hV2⟩ : ∃ V2, V2 = W1 := ⟨_, rfl⟩
        subst hV2
        have m0 := fun W (h : Ext V2 W) => (RD.out.r.b.ext h).c2
        have m1 := fun W (h : Ext V2 W) => (RD.out.r.y.ext h).cell HBB.out
        refine wp_region_tame_cut (fun W => Ext V2 W) (fun W W' => Ext W W') (by kernel_rfl) 183 rfl _ rfl (by decide +kernel) (by decide +kernel) (by decide +kernel) rfl (Ext.refl _).drew ?_
        simp only [List.dropLast]
        repeat (apply tame_q rfl; (intro ρ W hC hr hD; (obtain ⟨hrc, hrg, hrf, hrs⟩ := hr); (simp [go_sem] at hD); go_simp; first | exact ⟨⟨hC, Ext.refl _⟩, rfl⟩ | exact ⟨⟨hC, RS.refl _⟩, rfl⟩ | exact rfl); simp only [List.nil_append, List.cons_append])
        apply tame_q rfl
        · intro ρ W hC hr hD
          obtain ⟨hrc, hrg, hrf, hrs⟩ := hr
          simp [go_sem] at hD
          go_simp
          refine (behind_any c f b a _ _ W HAB.out HR.out hl (HH.out.ext (RD.out.r.e.trans hC)) (HS.out.ext (RD.out.r.e.trans hC))).mono ?_
          rintro e w' ⟨rfl, hE⟩
          exact ⟨_, rfl, ⟨hC.trans hE, hE⟩, rfl⟩
        simp only [List.nil_append, List.cons_append]
        repeat (apply tame_q rfl; (intro ρ W hC hr hD; (obtain ⟨hrc, hrg, hrf, hrs⟩ := hr); (simp [go_sem] at hD); go_simp; first | exact ⟨⟨hC, Ext.refl _⟩, rfl⟩ | exact ⟨⟨hC, RS.refl _⟩, rfl⟩ | exact rfl); simp only [List.nil_append, List.cons_append])
        refine tame_end_put rfl rfl (fun ρ W hC hr hF => ?_)
        simp [go_sem] at hF
        simp only [putF, hF, List.set_cons_succ, List.set_cons_zero]
        clear hF hr
        replace RD := Lib.hid (RD.out.ext hC)
        clear hC m0 m1
        obtain ⟨s, hs⟩ : ∃ s, s = a.src := ⟨_, rfl⟩
        simp only [← hs]
        have HSR := Lib.hid hs
        clear hs
        by_cases hjt : j + 1 = t
        · have hsu : s = u := by
            have := HX2.out
            rw [hjt, HT.out] at this
            injection this with this
            rw [HSR.out, this]
          subst hsu
          go_wp2
          exact Handed.intro (t - (j + 1)) (by omega) (HJ.out _ _ _ ⟨j + 1, s, by omega, Nat.le_refl _, by rw [HX2.out, ← HSR.out], ⟨rfl, rfl, by simp [Act.eval, hjt]⟩, RD.out⟩)
        · have hsu : ¬ s = u := by
            rintro rfl
            exact HM.out (j + 1) (by omega) (by omega) (by rw [HX2.out, ← HSR.out])
          have hsu2 : ¬ (s : Int) = (u : Int) := by omega
          have hjt2 : j + 1 < t := by omega
          go_wp2
          exact Handed.intro (t - (j + 1)) (by omega) (HJ.out _ _ _ ⟨j + 1, s, by omega, Nat.le_refl _, by rw [HX2.out, ← HSR.out], ⟨rfl, rfl, by simp [Act.eval, hjt2, hsu, hsu2]⟩, RD.out⟩)
      · rw [if_neg hb0] at hab
        by_cases hb1 : b < 0
        · rw [if_pos hb1] at hab
          obtain ⟨X, hX, hXa⟩ := Option.map_eq_some_iff.1 hab
          obtain ⟨i, hi⟩ : ∃ i : Nat, (-1 - b).toNat = i := ⟨_, rfl⟩
          rw [hi] at hX hXa
          have hiN : i < N := by have h1 := (List.getElem?_eq_some_iff.1 hX).1; rw [at_len] at h1; have := HN.out; omega
          have hbe : b = -1 - (i : Int) := by omega
          obtain ⟨y, hy⟩ : ∃ y, (walked (List.replicate N 0) (chainArcs σ.p j u))[i]? = some y := ⟨_, List.getElem?_eq_getElem (by rw [HZL.out]; exact hiN)⟩
          have hyb := HZB.out y (List.mem_of_getElem? hy)
          have o0 := RD.out.o.cell hy
          have HST := Lib.hid (show walked (List.replicate N 0) (chainArcs σ.p (j + 1) u) = (walked (List.replicate N 0) (chainArcs σ.p j u)).set i (y - 1) by rw [HWK.out, ← hXa, step_bwd, bump_set hy]; rfl)
          have hiz : (i : Int) < (N : Int) := by omega
          have hw0 : IntKind.i64.wrap (-1 - (-1 - (i : Int))) = (i : Int) := by rw [IntKind.wrap_i64]; omega
          have hw1 : IntKind.i64.wrap (y - 1) = y - 1 := by rw [IntKind.wrap_i64]; omega
          subst hbe
          have hz0 : ¬ (0 : Int) < -1 - (i : Int) := hb0
          have hz1 : decide ((0 : Int) < -1 - (i : Int)) = false := decide_eq_false hb0
          clear hab hX hXa hi hy
          go_wp2
          have RN := Lib.hid (RD.out.set hg x1 x2 x3 i (y - 1))
          rw [← HST.out] at RN
          clear RD
          have RD := RN
          clear RN
          generalize W.setCell _ _ = W1 at *
          obtain ⟨b, hbe⟩ : ∃ b, b = -1 - (i : Int) := ⟨_, rfl⟩
          rw [← hbe] at HBB HAB; clear hbe
          clear q0 qf ql of ol o0
          obtain ⟨V2, hV2⟩ : ∃ V2, V2 = W1 := ⟨_, rfl⟩
          subst hV2
          have m0 := fun W (h : Ext V2 W) => (RD.out.r.b.ext h).c2
          have m1 := fun W (h : Ext V2 W) => (RD.out.r.y.ext h).cell HBB.out
          refine wp_region_tame_cut (fun W => Ext V2 W) (fun W W' => Ext W W') (by kernel_rfl) 183 rfl _ rfl (by decide +kernel) (by decide +kernel) (by decide +kernel) rfl (Ext.refl _).drew ?_
          simp only [List.dropLast]
          repeat (apply tame_q rfl; (intro ρ W hC hr hD; (obtain ⟨hrc, hrg, hrf, hrs⟩ := hr); (simp [go_sem] at hD); go_simp; first | exact ⟨⟨hC, Ext.refl _⟩, rfl⟩ | exact ⟨⟨hC, RS.refl _⟩, rfl⟩ | exact rfl); simp only [List.nil_append, List.cons_append])
          apply tame_q rfl
          · intro ρ W hC hr hD
            obtain ⟨hrc, hrg, hrf, hrs⟩ := hr
            simp [go_sem] at hD
            go_simp
            refine (behind_any c f b a _ _ W HAB.out HR.out hl (HH.out.ext (RD.out.r.e.trans hC)) (HS.out.ext (RD.out.r.e.trans hC))).mono ?_
            rintro e w' ⟨rfl, hE⟩
            exact ⟨_, rfl, ⟨hC.trans hE, hE⟩, rfl⟩
          simp only [List.nil_append, List.cons_append]
          repeat (apply tame_q rfl; (intro ρ W hC hr hD; (obtain ⟨hrc, hrg, hrf, hrs⟩ := hr); (simp [go_sem] at hD); go_simp; first | exact ⟨⟨hC, Ext.refl _⟩, rfl⟩ | exact ⟨⟨hC, RS.refl _⟩, rfl⟩ | exact rfl); simp only [List.nil_append, List.cons_append])
          refine tame_end_put rfl rfl (fun ρ W hC hr hF => ?_)
          simp [go_sem] at hF
          simp only [putF, hF, List.set_cons_succ, List.set_cons_zero]
          clear hF hr
          replace RD := Lib.hid (RD.out.ext hC)
          clear hC m0 m1
          obtain ⟨s, hs⟩ : ∃ s, s = a.src := ⟨_, rfl⟩
          simp only [← hs]
          have HSR := Lib.hid hs
          clear hs
          by_cases hjt : j + 1 = t
          · have hsu : s = u := by
              have := HX2.out
              rw [hjt, HT.out] at this
              injection this with this
              rw [HSR.out, this]
            subst hsu
            go_wp2
            exact Handed.intro (t - (j + 1)) (by omega) (HJ.out _ _ _ ⟨j + 1, s, by omega, Nat.le_refl _, by rw [HX2.out, ← HSR.out], ⟨rfl, rfl, by simp [Act.eval, hjt]⟩, RD.out⟩)
          · have hsu : ¬ s = u := by
              rintro rfl
              exact HM.out (j + 1) (by omega) (by omega) (by rw [HX2.out, ← HSR.out])
            have hsu2 : ¬ (s : Int) = (u : Int) := by omega
            have hjt2 : j + 1 < t := by omega
            go_wp2
            exact Handed.intro (t - (j + 1)) (by omega) (HJ.out _ _ _ ⟨j + 1, s, by omega, Nat.le_refl _, by rw [HX2.out, ← HSR.out], ⟨rfl, rfl, by simp [Act.eval, hjt2, hsu, hsu2]⟩, RD.out⟩)
        · rw [if_neg hb1] at hab
          cases hab
    · have HE := Lib.hid (show j = t by omega)
      have hjd : decide (j < t) = false := decide_eq_false hjn
      go_wp2
      have hrd := RD.out
      rw [HE.out] at hrd
      exact HQ.out _ _ ⟨rfl, rfl, by simp [Act.eval]⟩ hrd
end Go.Proofs.YtafdbgielmlihaaDoor
