/- The walks of market.gets and of the reference's Gets. -/
import Derived.Test.YtafdbgielmlihaaDoorPkChLeastCardC
import Derived.Test.YtafdbgielmlihaaDoorPkChLeastCardB
import Derived.WalkMore
import Derived.RegionTactic
import Derived.Test.YtafdbgielmlihaaDoorPkChLeastCardD
namespace Go.Proofs.YtafdbgielmlihaaDoor
open Go.RowKit Go.Shelf Go.Lib
set_option maxRecDepth 100000
set_option linter.unusedSimpArgs false

/-- What a call gives that makes a list of numbers. -/
def GivesI (l : List Int) (w : World) (e : Ending) (w' : World) : Prop := (∃ g, e = .returned (.slice (some ⟨g, 0, none⟩) l.length l.length) ∧ w.heap.size ≤ g ∧ RowI w' g l) ∧ Ext w w'

set_option maxHeartbeats 2000000 in
theorem mgets_any (c : Chn) (m : List Int) (mb : Nat) (hv sv mv0 cv : Value) (mv : Value) (w : World) (hM : Blk w mb 112 #[hv, sv, mv0, cv]) (hh : SlI w hv c.houses) (hs : SlL w sv c.sales) (hm : SlI w mv m) (hR : Right c) (hl : c.sales.length ≤ 100) (hml : m.length = c.sales.length) (hmb : ∀ y ∈ m, -1000 ≤ y ∧ y ≤ 1000) :
    Calls Tryd.prog 71 #[.pointer (some ⟨mb, 0, none⟩), mv] w (GivesI (getsL c m) w) := by
  have HH := Lib.hid hh; have HS := Lib.hid hs; have HM := Lib.hid hm; have HR := Lib.hid hR; have HML := Lib.hid hml; have HMB := Lib.hid hmb
  have h6 := hR.h6
  obtain ⟨A, n, cp, rfl, hn, hlc, hcm⟩ := hh.form
  obtain ⟨A2, n2, cp2, rfl, hn2, hlc2, hcm2⟩ := hs.form
  obtain ⟨A3, n3, cp3, rfl, hn3, hlc3, hcm3⟩ := hm.form
  have hn6 : n ≤ 6 := by have := hn.out; omega
  have hn3e : n3 = n2 := by have := hn2.out; have := hn3.out; omega
  subst hn3e
  have hn30 : n3 ≤ 100 := by have := hn2.out; omega
  have hmk := fun w => run_makeI (n := n) (by omega) w
  clear hh hs hm hR hml hmb hl h6
  have HBC := Lib.hid hM; obtain ⟨x0, x1, x2, x3, xf, xl⟩ := hM.c4; clear hM
  go_enter Tryd.func71, Tryd.ntmps71
  go_wp2
  clear hmk
  have HZ := Lib.hid (show netTo c m 0 = List.replicate n 0 by rw [netTo_zero, hn.out])
  go_loopg [21] n3 (fun gg s wr => ∃ kk : Nat, kk ≤ n3 ∧ n3 - kk ≤ gg ∧ s = .int .i64 kk ∧ Aside (RowI wr w.heap.size (netTo c m kk)) ∧ Aside (Ext w wr) ∧ Aside (Blk wr mb 112 #[.slice A n cp, .slice A2 n3 cp2, mv0, cv]))
  case atStart => exact ⟨0, Nat.zero_le _, by omega, rfl, by show RowI _ _ _; rw [HZ.out]; exact Blk.at_ (by simp), Ext.al _ _, HBC.out.alloc _⟩
  case round =>
    obtain ⟨kk, hkk, hg, rfl, RW, EX, BC⟩ := hrel
    by_cases hlt : kk < n3
    · have hltz : (kk : Int) < (n3 : Int) := by omega
      obtain ⟨b, off, x, rfl, hx, -, hcell⟩ := HS.out.at_ hlt
      obtain ⟨c0, c1, c2, c3, c4⟩ := SlL.cells hcell EX.out
      obtain ⟨b9, off9, y, rfl, hy, -, hycell⟩ := HM.out.at_ hlt
      obtain ⟨s, bb, hsi, hbi, hsl, hbl, hne⟩ := sale_at HR.out hx
      have HX := Lib.hid hx; have HY := Lib.hid hy; have HSI := Lib.hid hsi; have HBI := Lib.hid hbi; have HNE := Lib.hid hne
      have hyb := HMB.out y (List.mem_of_getElem? hy)
      have hsz : (s : Int) < (n : Int) := by have := hn.out; omega
      have hbz : (bb : Int) < (n : Int) := by have := hn.out; omega
      have hsz' : s < n := by omega
      have hbz' : bb < n := by omega
      have KS : ∀ v, -100000 ≤ net ((salsOf c).take kk) (m.take kk) v ∧ net ((salsOf c).take kk) (m.take kk) v ≤ 100000 := fun v => by
        have h1 := net_bd (B := 1000) v (by decide) ((salsOf c).take kk) (m.take kk) fun z hz => HMB.out z (List.mem_of_mem_take hz)
        have h2 : (m.take kk).length ≤ 100 := by rw [List.length_take]; omega
        omega
      obtain ⟨P, hP⟩ : ∃ P, net ((salsOf c).take kk) (m.take kk) s = P := ⟨_, rfl⟩
      obtain ⟨Q, hQ⟩ : ∃ Q, net ((salsOf c).take kk) (m.take kk) bb = Q := ⟨_, rfl⟩
      have hPb := KS s; have hQb := KS bb
      rw [hP] at hPb
      rw [hQ] at hQb
      have HP := Lib.hid hP; have HQ := Lib.hid hQ
      have HST := Lib.hid (netTo_step HML.out hx hy hsi hbi hne hP hQ)
      have hw1 : IntKind.i64.wrap (P - y) = P - y := by rw [IntKind.wrap_i64]; omega
      have hw2 : IntKind.i64.wrap (Q + y) = Q + y := by rw [IntKind.wrap_i64]; omega
      clear hx hy hsi hbi hne hP hQ hcell KS
      obtain ⟨wx, hwx⟩ : ∃ wx, wx = wr.alloc (.cells #[.int .i64 x.number, .int .i64 x.seller, .int .i64 x.buyer, .int .i64 x.bales, .int .i64 x.price] 68) := ⟨_, rfl⟩
      have BX := Lib.hid (show Blk wx wr.heap.size 68 #[.int .i64 x.number, .int .i64 x.seller, .int .i64 x.buyer, .int .i64 x.bales, .int .i64 x.price] from hwx ▸ Blk.new _ _ _)
      have EW := Lib.hid (show Ext w wx from hwx ▸ EX.out.alloc _)
      have RX := Lib.hid (show RowI wx w.heap.size (netTo c m kk) from hwx ▸ RW.out.alloc _)
      have BCX := Lib.hid (hwx ▸ BC.out.alloc _)
      have HZW := Lib.hid (show wx.heap.size = wr.heap.size + 1 ∧ w.heap.size < wr.heap.size from ⟨by rw [hwx]; simp, RW.out.lt⟩)
      go_wp2
      simp only [← hwx]
      clear hwx RW EX BC c0 c1 c2 c3 c4
      have m0 := fun W (h : Ext wx W) => (BX.out.ext h).c5.1
      have m1 := fun W (h : Ext wx W) => (BX.out.ext h).c5.2.1
      have m2 := fun W (h : Ext wx W) => (BX.out.ext h).c5.2.2.1
      have m3 := fun W (h : Ext wx W) => (BX.out.ext h).c5.2.2.2.1
      have m4 := fun W (h : Ext wx W) => (BX.out.ext h).c5.2.2.2.2.1
      have my := fun W (h : Ext wx W) => SlI.cell hycell ((EW.out).trans h)
      have mm := fun W (h : Ext wx W) => (BCX.out.ext h).c4
      have mr := fun W (h : Ext wx W) => (RX.out.ext h).cell (i := s) (x := P) (by rw [netTo_get hsl, HP.out])
      refine wp_region_tame_cut (fun W => Ext wx W) (fun W W' => Ext W W') (by kernel_rfl) 54 rfl _ rfl (by decide +kernel) (by decide +kernel) (by decide +kernel) rfl (Ext.refl _).drew ?_
      simp only [List.dropLast]
      repeat (apply tame_q rfl; (intro ρ W hC hr hD; (obtain ⟨hrc, hrg, hrf, hrs⟩ := hr); (simp [go_sem] at hD); go_simp; first | exact ⟨⟨hC, Ext.refl _⟩, rfl⟩ | exact ⟨⟨hC, RS.refl _⟩, rfl⟩ | exact rfl); simp only [List.nil_append, List.cons_append])
      apply tame_q rfl
      · intro ρ W hC hr hD
        obtain ⟨hrc, hrg, hrf, hrs⟩ := hr
        simp [go_sem] at hD
        go_simp
        refine (mhouse_any c x.seller s mb _ _ _ _ W (BCX.out.ext hC) (HH.out.ext (EW.out.trans hC)) HSI.out).mono ?_
        rintro e w' ⟨rfl, hE⟩
        exact ⟨_, rfl, ⟨hC.trans hE, hE⟩, rfl⟩
      simp only [List.nil_append, List.cons_append]
      repeat (apply tame_q rfl; (intro ρ W hC hr hD; (obtain ⟨hrc, hrg, hrf, hrs⟩ := hr); (simp [go_sem] at hD); go_simp; first | exact ⟨⟨hC, Ext.refl _⟩, rfl⟩ | exact ⟨⟨hC, RS.refl _⟩, rfl⟩ | exact rfl); simp only [List.nil_append, List.cons_append])
      refine tame_end 54 rfl rfl (fun ρ W hC hr hF => ?_)
      obtain ⟨hrc, hrg, hrf, hrs⟩ := hr
      simp [go_sem] at hF
      apply frame_to
      · go_simp
        exact rfl
      clear hF hrs hrc hrg hrf
      have E1 := Lib.hid (EW.out.trans hC)
      have R1 := Lib.hid (RX.out.ext hC)
      have B1 := Lib.hid (BX.out.ext hC)
      have C1 := Lib.hid (BCX.out.ext hC)
      have r1 := R1.out.cell (i := s) (x := P) (by rw [netTo_get hsl, HP.out])
      have rf := R1.out.frozen
      have rl := R1.out.lt
      have Z1 := Lib.hid (show w.heap.size < W.heap.size ∧ wr.heap.size < W.heap.size by have := HZW.out; have := hC.size; have := EW.out.size; omega)
      clear hC m0 m1 m2 m3 m4 my mr mm BX RX EW BCX
      go_wp2
      obtain ⟨w2, hw2'⟩ : ∃ w2, w2 = W.setCell ⟨w.heap.size, s, none⟩ (.int .i64 (P - y)) := ⟨_, rfl⟩
      have RX := Lib.hid (show RowI w2 w.heap.size ((netTo c m kk).set s (P - y)) from hw2' ▸ R1.out.set _ _)
      have BX := Lib.hid (show Blk w2 wr.heap.size 68 #[.int .i64 x.number, .int .i64 x.seller, .int .i64 x.buyer, .int .i64 x.bales, .int .i64 x.price] from hw2' ▸ B1.out.far (by have := HZW.out; dsimp only; omega) _)
      have EW := Lib.hid (show Ext w w2 from hw2' ▸ E1.out.setCell (by dsimp only; omega) _)
      have BCX := Lib.hid (hw2' ▸ C1.out.far (by dsimp only; omega) _)
      simp only [← hw2']
      clear hw2' r1 rf rl
      have m0 := fun W (h : Ext w2 W) => (BX.out.ext h).c5.1
      have m1 := fun W (h : Ext w2 W) => (BX.out.ext h).c5.2.1
      have m2 := fun W (h : Ext w2 W) => (BX.out.ext h).c5.2.2.1
      have m3 := fun W (h : Ext w2 W) => (BX.out.ext h).c5.2.2.2.1
      have m4 := fun W (h : Ext w2 W) => (BX.out.ext h).c5.2.2.2.2.1
      have my := fun W (h : Ext w2 W) => SlI.cell hycell ((EW.out).trans h)
      have mm := fun W (h : Ext w2 W) => (BCX.out.ext h).c4
      have mr := fun W (h : Ext w2 W) => (RX.out.ext h).cell (i := bb) (x := Q) (by rw [List.getElem?_set, if_neg HNE.out, netTo_get hbl, HQ.out])
      refine wp_region_tame_cut (fun W => Ext w2 W) (fun W W' => Ext W W') (by kernel_rfl) 54 rfl _ rfl (by decide +kernel) (by decide +kernel) (by decide +kernel) rfl (Ext.refl _).drew ?_
      simp only [List.dropLast]
      repeat (apply tame_q rfl; (intro ρ W hC hr hD; (obtain ⟨hrc, hrg, hrf, hrs⟩ := hr); (simp [go_sem] at hD); go_simp; first | exact ⟨⟨hC, Ext.refl _⟩, rfl⟩ | exact ⟨⟨hC, RS.refl _⟩, rfl⟩ | exact rfl); simp only [List.nil_append, List.cons_append])
      apply tame_q rfl
      · intro ρ W hC hr hD
        obtain ⟨hrc, hrg, hrf, hrs⟩ := hr
        simp [go_sem] at hD
        go_simp
        refine (mhouse_any c x.buyer bb mb _ _ _ _ W (BCX.out.ext hC) (HH.out.ext (EW.out.trans hC)) HBI.out).mono ?_
        rintro e w' ⟨rfl, hE⟩
        exact ⟨_, rfl, ⟨hC.trans hE, hE⟩, rfl⟩
      simp only [List.nil_append, List.cons_append]
      repeat (apply tame_q rfl; (intro ρ W hC hr hD; (obtain ⟨hrc, hrg, hrf, hrs⟩ := hr); (simp [go_sem] at hD); go_simp; first | exact ⟨⟨hC, Ext.refl _⟩, rfl⟩ | exact ⟨⟨hC, RS.refl _⟩, rfl⟩ | exact rfl); simp only [List.nil_append, List.cons_append])
      refine tame_end 54 rfl rfl (fun ρ W hC hr hF => ?_)
      obtain ⟨hrc, hrg, hrf, hrs⟩ := hr
      simp [go_sem] at hF
      apply frame_to
      · go_simp
        exact rfl
      clear hF hrs hrc hrg hrf
      have E2 := Lib.hid (EW.out.trans hC)
      have R2 := Lib.hid (RX.out.ext hC)
      have C2 := Lib.hid (BCX.out.ext hC)
      have r1 := R2.out.cell (i := bb) (x := Q) (by rw [List.getElem?_set, if_neg HNE.out, netTo_get hbl, HQ.out])
      have rf := R2.out.frozen
      have rl := R2.out.lt
      clear hC m0 m1 m2 m3 m4 my mr mm BX RX EW BCX
      go_wp2
      go_roundg (n3 - (kk + 1))
      case measure => omega
      case rel => exact ⟨kk + 1, by omega, by omega, by simp, by show RowI _ _ _; rw [← HST.out]; exact R2.out.set _ _, E2.out.setCell (by dsimp only; omega) _, C2.out.far (by dsimp only; omega) _⟩
    · have HE := Lib.hid (show kk = n3 by omega)
      go_wp2
      go_ret
      have hr := RW.out
      rw [show kk = c.sales.length by have := HE.out; have := hn2.out; omega, netTo_all HML.out] at hr
      have HLN := Lib.hid (show (getsL c m).length = n by simp [getsL]; exact hn.out.symm)
      exact ⟨⟨w.heap.size, by rw [HLN.out]; rfl, by omega, hr⟩, EX.out⟩
theorem house_at (c : Chn) (id k : Int) (hv sv : Value) (w : World) (hh : SlI w hv c.houses) (hs : SlL w sv c.sales) (hk : houseI c id = k) :
    Calls Tryd.prog 64 #[valC hv sv, .int .i64 id] w fun e w' => e = .returned (.int .i64 k) ∧ Ext w w' := hk ▸ house_any c id hv sv w hh hs
set_option maxHeartbeats 2000000 in
theorem refGets_any (c : Chn) (m : List Int) (hv sv : Value) (mv : Value) (w : World)  (hh : SlI w hv c.houses) (hs : SlL w sv c.sales) (hm : SlI w mv m) (hR : Right c) (hl : c.sales.length ≤ 100) (hml : m.length = c.sales.length) (hmb : ∀ y ∈ m, -1000 ≤ y ∧ y ≤ 1000) :
    Calls Tryd.prog 63 #[valC hv sv, mv] w (GivesI (getsL c m) w) := by
  have HH := Lib.hid hh; have HS := Lib.hid hs; have HM := Lib.hid hm; have HR := Lib.hid hR; have HML := Lib.hid hml; have HMB := Lib.hid hmb
  have h6 := hR.h6
  obtain ⟨A, n, cp, rfl, hn, hlc, hcm⟩ := hh.form
  obtain ⟨A2, n2, cp2, rfl, hn2, hlc2, hcm2⟩ := hs.form
  obtain ⟨A3, n3, cp3, rfl, hn3, hlc3, hcm3⟩ := hm.form
  have hn6 : n ≤ 6 := by have := hn.out; omega
  have hn3e : n3 = n2 := by have := hn2.out; have := hn3.out; omega
  subst hn3e
  have hn30 : n3 ≤ 100 := by have := hn2.out; omega
  have hmk := fun w => run_makeI (n := n) (by omega) w
  clear hh hs hm hR hml hmb hl h6
  have HBC := Lib.hid (show Blk (w.alloc (.cells #[.slice A n cp, .slice A2 n3 cp2] 25)) w.heap.size 25 #[.slice A n cp, .slice A2 n3 cp2] from Blk.new _ _ _)
  go_enter Tryd.func63, Tryd.ntmps63
  go_wp2
  clear hmk
  have HZ := Lib.hid (show netTo c m 0 = List.replicate n 0 by rw [netTo_zero, hn.out])
  go_loopg [15] n3 (fun gg s wr => ∃ kk : Nat, kk ≤ n3 ∧ n3 - kk ≤ gg ∧ s = .int .i64 kk ∧ Aside (RowI wr (w.heap.size + 1) (netTo c m kk)) ∧ Aside (Ext w wr) ∧ Aside (Blk wr w.heap.size 25 #[.slice A n cp, .slice A2 n3 cp2]))
  case atStart => exact ⟨0, Nat.zero_le _, by omega, rfl, by show RowI _ _ _; rw [HZ.out]; exact Blk.at_ (by simp), (Ext.al w _).alloc _, HBC.out.alloc _⟩
  case round =>
    obtain ⟨kk, hkk, hg, rfl, RW, EX, BC⟩ := hrel
    by_cases hlt : kk < n3
    · have hltz : (kk : Int) < (n3 : Int) := by omega
      obtain ⟨b, off, x, rfl, hx, -, hcell⟩ := HS.out.at_ hlt
      obtain ⟨c0, c1, c2, c3, c4⟩ := SlL.cells hcell EX.out
      obtain ⟨b9, off9, y, rfl, hy, -, hycell⟩ := HM.out.at_ hlt
      obtain ⟨s, bb, hsi, hbi, hsl, hbl, hne⟩ := sale_at HR.out hx
      have HX := Lib.hid hx; have HY := Lib.hid hy; have HSI := Lib.hid hsi; have HBI := Lib.hid hbi; have HNE := Lib.hid hne
      have hyb := HMB.out y (List.mem_of_getElem? hy)
      have hsz : (s : Int) < (n : Int) := by have := hn.out; omega
      have hbz : (bb : Int) < (n : Int) := by have := hn.out; omega
      have hsz' : s < n := by omega
      have hbz' : bb < n := by omega
      have KS : ∀ v, -100000 ≤ net ((salsOf c).take kk) (m.take kk) v ∧ net ((salsOf c).take kk) (m.take kk) v ≤ 100000 := fun v => by
        have h1 := net_bd (B := 1000) v (by decide) ((salsOf c).take kk) (m.take kk) fun z hz => HMB.out z (List.mem_of_mem_take hz)
        have h2 : (m.take kk).length ≤ 100 := by rw [List.length_take]; omega
        omega
      obtain ⟨P, hP⟩ : ∃ P, net ((salsOf c).take kk) (m.take kk) s = P := ⟨_, rfl⟩
      obtain ⟨Q, hQ⟩ : ∃ Q, net ((salsOf c).take kk) (m.take kk) bb = Q := ⟨_, rfl⟩
      have hPb := KS s; have hQb := KS bb
      rw [hP] at hPb
      rw [hQ] at hQb
      have HP := Lib.hid hP; have HQ := Lib.hid hQ
      have HST := Lib.hid (netTo_step HML.out hx hy hsi hbi hne hP hQ)
      have hw1 : IntKind.i64.wrap (P - y) = P - y := by rw [IntKind.wrap_i64]; omega
      have hw2 : IntKind.i64.wrap (Q + y) = Q + y := by rw [IntKind.wrap_i64]; omega
      clear hx hy hsi hbi hne hP hQ hcell KS
      obtain ⟨wx, hwx⟩ : ∃ wx, wx = wr.alloc (.cells #[.int .i64 x.number, .int .i64 x.seller, .int .i64 x.buyer, .int .i64 x.bales, .int .i64 x.price] 68) := ⟨_, rfl⟩
      have BX := Lib.hid (show Blk wx wr.heap.size 68 #[.int .i64 x.number, .int .i64 x.seller, .int .i64 x.buyer, .int .i64 x.bales, .int .i64 x.price] from hwx ▸ Blk.new _ _ _)
      have EW := Lib.hid (show Ext w wx from hwx ▸ EX.out.alloc _)
      have RX := Lib.hid (show RowI wx (w.heap.size + 1) (netTo c m kk) from hwx ▸ RW.out.alloc _)
      have BCX := Lib.hid (hwx ▸ BC.out.alloc _)
      have HZW := Lib.hid (show wx.heap.size = wr.heap.size + 1 ∧ (w.heap.size + 1) < wr.heap.size from ⟨by rw [hwx]; simp, RW.out.lt⟩)
      go_wp2
      simp only [← hwx]
      clear hwx RW EX BC c0 c1 c2 c3 c4
      have m0 := fun W (h : Ext wx W) => (BX.out.ext h).c5.1
      have m1 := fun W (h : Ext wx W) => (BX.out.ext h).c5.2.1
      have m2 := fun W (h : Ext wx W) => (BX.out.ext h).c5.2.2.1
      have m3 := fun W (h : Ext wx W) => (BX.out.ext h).c5.2.2.2.1
      have m4 := fun W (h : Ext wx W) => (BX.out.ext h).c5.2.2.2.2.1
      have my := fun W (h : Ext wx W) => SlI.cell hycell ((EW.out).trans h)
      have mm := fun W (h : Ext wx W) => (BCX.out.ext h).c2
      have mr := fun W (h : Ext wx W) => (RX.out.ext h).cell (i := s) (x := P) (by rw [netTo_get hsl, HP.out])
      refine wp_region_tame_cut (fun W => Ext wx W) (fun W W' => Ext W W') (by kernel_rfl) 48 rfl _ rfl (by decide +kernel) (by decide +kernel) (by decide +kernel) rfl (Ext.refl _).drew ?_
      simp only [List.dropLast]
      repeat (apply tame_q rfl; (intro ρ W hC hr hD; (obtain ⟨hrc, hrg, hrf, hrs⟩ := hr); (simp [go_sem] at hD); go_simp; first | exact ⟨⟨hC, Ext.refl _⟩, rfl⟩ | exact ⟨⟨hC, RS.refl _⟩, rfl⟩ | exact rfl); simp only [List.nil_append, List.cons_append])
      apply tame_q rfl
      · intro ρ W hC hr hD
        obtain ⟨hrc, hrg, hrf, hrs⟩ := hr
        simp [go_sem] at hD
        go_simp
        refine (house_at c x.seller s _ _ W (HH.out.ext (EW.out.trans hC)) (HS.out.ext (EW.out.trans hC)) HSI.out).mono ?_
        rintro e w' ⟨rfl, hE⟩
        exact ⟨_, rfl, ⟨hC.trans hE, hE⟩, rfl⟩
      simp only [List.nil_append, List.cons_append]
      repeat (apply tame_q rfl; (intro ρ W hC hr hD; (obtain ⟨hrc, hrg, hrf, hrs⟩ := hr); (simp [go_sem] at hD); go_simp; first | exact ⟨⟨hC, Ext.refl _⟩, rfl⟩ | exact ⟨⟨hC, RS.refl _⟩, rfl⟩ | exact rfl); simp only [List.nil_append, List.cons_append])
      refine tame_end 48 rfl rfl (fun ρ W hC hr hF => ?_)
      obtain ⟨hrc, hrg, hrf, hrs⟩ := hr
      simp [go_sem] at hF
      apply frame_to
      · go_simp
        exact rfl
      clear hF hrs hrc hrg hrf
      have E1 := Lib.hid (EW.out.trans hC)
      have R1 := Lib.hid (RX.out.ext hC)
      have B1 := Lib.hid (BX.out.ext hC)
      have C1 := Lib.hid (BCX.out.ext hC)
      have r1 := R1.out.cell (i := s) (x := P) (by rw [netTo_get hsl, HP.out])
      have rf := R1.out.frozen
      have rl := R1.out.lt
      have Z1 := Lib.hid (show w.heap.size < W.heap.size ∧ wr.heap.size < W.heap.size by have := HZW.out; have := hC.size; have := EW.out.size; omega)
      clear hC m0 m1 m2 m3 m4 my mr mm BX RX EW BCX
      go_wp2
      obtain ⟨w2, hw2'⟩ : ∃ w2, w2 = W.setCell ⟨(w.heap.size + 1), s, none⟩ (.int .i64 (P - y)) := ⟨_, rfl⟩
      have RX := Lib.hid (show RowI w2 (w.heap.size + 1) ((netTo c m kk).set s (P - y)) from hw2' ▸ R1.out.set _ _)
      have BX := Lib.hid (show Blk w2 wr.heap.size 68 #[.int .i64 x.number, .int .i64 x.seller, .int .i64 x.buyer, .int .i64 x.bales, .int .i64 x.price] from hw2' ▸ B1.out.far (by have := HZW.out; dsimp only; omega) _)
      have EW := Lib.hid (show Ext w w2 from hw2' ▸ E1.out.setCell (by dsimp only; omega) _)
      have BCX := Lib.hid (hw2' ▸ C1.out.far (by dsimp only; omega) _)
      simp only [← hw2']
      clear hw2' r1 rf rl
      have m0 := fun W (h : Ext w2 W) => (BX.out.ext h).c5.1
      have m1 := fun W (h : Ext w2 W) => (BX.out.ext h).c5.2.1
      have m2 := fun W (h : Ext w2 W) => (BX.out.ext h).c5.2.2.1
      have m3 := fun W (h : Ext w2 W) => (BX.out.ext h).c5.2.2.2.1
      have m4 := fun W (h : Ext w2 W) => (BX.out.ext h).c5.2.2.2.2.1
      have my := fun W (h : Ext w2 W) => SlI.cell hycell ((EW.out).trans h)
      have mm := fun W (h : Ext w2 W) => (BCX.out.ext h).c2
      have mr := fun W (h : Ext w2 W) => (RX.out.ext h).cell (i := bb) (x := Q) (by rw [List.getElem?_set, if_neg HNE.out, netTo_get hbl, HQ.out])
      refine wp_region_tame_cut (fun W => Ext w2 W) (fun W W' => Ext W W') (by kernel_rfl) 48 rfl _ rfl (by decide +kernel) (by decide +kernel) (by decide +kernel) rfl (Ext.refl _).drew ?_
      simp only [List.dropLast]
      repeat (apply tame_q rfl; (intro ρ W hC hr hD; (obtain ⟨hrc, hrg, hrf, hrs⟩ := hr); (simp [go_sem] at hD); go_simp; first | exact ⟨⟨hC, Ext.refl _⟩, rfl⟩ | exact ⟨⟨hC, RS.refl _⟩, rfl⟩ | exact rfl); simp only [List.nil_append, List.cons_append])
      apply tame_q rfl
      · intro ρ W hC hr hD
        obtain ⟨hrc, hrg, hrf, hrs⟩ := hr
        simp [go_sem] at hD
        go_simp
        refine (house_at c x.buyer bb _ _ W (HH.out.ext (EW.out.trans hC)) (HS.out.ext (EW.out.trans hC)) HBI.out).mono ?_
        rintro e w' ⟨rfl, hE⟩
        exact ⟨_, rfl, ⟨hC.trans hE, hE⟩, rfl⟩
      simp only [List.nil_append, List.cons_append]
      repeat (apply tame_q rfl; (intro ρ W hC hr hD; (obtain ⟨hrc, hrg, hrf, hrs⟩ := hr); (simp [go_sem] at hD); go_simp; first | exact ⟨⟨hC, Ext.refl _⟩, rfl⟩ | exact ⟨⟨hC, RS.refl _⟩, rfl⟩ | exact rfl); simp only [List.nil_append, List.cons_append])
      refine tame_end 48 rfl rfl (fun ρ W hC hr hF => ?_)
      obtain ⟨hrc, hrg, hrf, hrs⟩ := hr
      simp [go_sem] at hF
      apply frame_to
      · go_simp
        exact rfl
      clear hF hrs hrc hrg hrf
      have E2 := Lib.hid (EW.out.trans hC)
      have R2 := Lib.hid (RX.out.ext hC)
      have C2 := Lib.hid (BCX.out.ext hC)
      have r1 := R2.out.cell (i := bb) (x := Q) (by rw [List.getElem?_set, if_neg HNE.out, netTo_get hbl, HQ.out])
      have rf := R2.out.frozen
      have rl := R2.out.lt
      clear hC m0 m1 m2 m3 m4 my mr mm BX RX EW BCX
      go_wp2
      go_roundg (n3 - (kk + 1))
      case measure => omega
      case rel => exact ⟨kk + 1, by omega, by omega, by simp, by show RowI _ _ _; rw [← HST.out]; exact R2.out.set _ _, E2.out.setCell (by dsimp only; omega) _, C2.out.far (by dsimp only; omega) _⟩
    · have HE := Lib.hid (show kk = n3 by omega)
      go_wp2
      go_ret
      have hr := RW.out
      rw [show kk = c.sales.length by have := HE.out; have := hn2.out; omega, netTo_all HML.out] at hr
      have HLN := Lib.hid (show (getsL c m).length = n by simp [getsL]; exact hn.out.symm)
      exact ⟨⟨(w.heap.size + 1), by rw [HLN.out]; rfl, by omega, hr⟩, EX.out⟩
end Go.Proofs.YtafdbgielmlihaaDoor
/- The reference's SameInts, Same and Twin. -/
namespace Go.Proofs.YtafdbgielmlihaaDoor
open Go.RowKit Go.Shelf Go.Lib
set_option maxRecDepth 100000
set_option linter.unusedSimpArgs false

theorem sameInts4_any (l : List Int) (v v' : Value) (w : World) (h : SlI w v l) (h' : SlI w v' l) :
    Calls Tryd.prog 79 #[v, v'] w fun e w' => e = .returned (.bool true) ∧ Ext w w' := by
  have HA := Lib.hid h
  have HB := Lib.hid h'
  obtain ⟨A, n, cp, rfl, hn, hlc, hcm⟩ := h.form
  obtain ⟨A2, n2, cp2, rfl, hn2, hlc2, hcm2⟩ := h'.form
  have hnn : n2 = n := by have := hn.out; have := hn2.out; omega
  subst hnn
  clear h h'
  go_enter Tryd.func79, Tryd.ntmps79
  go_wp2
  go_loopg [5] n2 (fun gg s wr => ∃ (k : Nat), k ≤ n2 ∧ n2 - k ≤ gg ∧ s = .int .i64 k ∧ Aside (Ext w wr))
  case atStart => exact ⟨0, by omega, by omega, rfl, Ext.refl _⟩
  case round =>
    obtain ⟨k, hk, hg, rfl, EW⟩ := hrel
    by_cases hlt : k < n2
    · have hjz : (k : Int) < (n2 : Int) := by omega
      obtain ⟨bb, off, x, rfl, hx, hb, hcell⟩ := HA.out.at_ hlt
      obtain ⟨bb', off', x', rfl, hx', hb', hcell'⟩ := HB.out.at_ hlt
      have hxx : x' = x := by rw [hx] at hx'; injection hx' with h; exact h.symm
      subst hxx
      have c0 := fun W (h : Ext wr W) => SlI.cell hcell (EW.out.trans h)
      have c1 := fun W (h : Ext wr W) => SlI.cell hcell' (EW.out.trans h)
      clear hx hx' hcell hcell'
      go_wp2
      refine wp_region_tame (fun W => Ext wr W) (fun W W' => Ext W W') (by kernel_rfl) 26 rfl (by decide +kernel) (Ext.refl _).drew ?_
      repeat (apply tame_q rfl; (intro ρ W hC hr hD; (obtain ⟨hrc, hrg, hrf, hrs⟩ := hr); (simp [go_sem] at hD); go_simp; first | exact ⟨⟨hC, Ext.refl _⟩, rfl⟩ | exact ⟨⟨hC, RS.refl _⟩, rfl⟩ | exact rfl); simp only [List.nil_append, List.cons_append])
      refine tame_end 26 rfl rfl (fun ρ W hC hr hF => ?_)
      obtain ⟨hrc, hrg, hrf, hrs⟩ := hr
      simp [go_sem] at hF
      apply frame_to
      · go_simp
        exact rfl
      clear hF hrs hrc hrg hrf
      have HC := Lib.hid hC; clear hC
      go_wp2
      go_roundg (n2 - (k + 1))
      case measure => omega
      case rel => exact ⟨k + 1, by omega, by omega, rfl, EW.out.trans HC.out⟩
    · go_wp2
      go_ret
      exact ⟨rfl, EW.out⟩
theorem sameInts_any (l : List Int) (v v' : Value) (w : World) (h : SlI w v l) (h' : SlI w v' l) :
    Calls Tryd.prog 26 #[v, v'] w fun e w' => e = .returned (.bool true) ∧ Ext w w' := by
  have HA := Lib.hid h
  have HB := Lib.hid h'
  clear h h'
  go_enter Tryd.func26, Tryd.ntmps26
  go_wp2_with (go_at_call 79; refine (sameInts4_any l _ _ _ HA.out HB.out).mono ?_; rintro e w' ⟨rfl, hb'⟩)
  go_ret
  exact ⟨rfl, hb'⟩

theorem und68 : Tryd.prog.underlying 68 = some (.struct (Tryd.prog.fieldsOf 68)) := by kernel_rfl
theorem held68 : Tryd.prog.stoodInHeld 68 = false := by kernel_rfl
theorem neq68s (a b c d e : Int) (w : World) : (binOp .neq 68 (.agg #[.int .i64 a, .int .i64 b, .int .i64 c, .int .i64 d, .int .i64 e]) (.agg #[.int .i64 a, .int .i64 b, .int .i64 c, .int .i64 d, .int .i64 e])).run Tryd.prog w = .ok (.bool false) w := by
  have u3 := Tryd.underlying3
  have a3 := Tryd.isAgg3
  have z3 := Tryd.sizeOf3
  rw [run_neq_struct, show (10000 : Nat) = 9999 + 1 from rfl, run_equalIn_agg w 9999 68 _ _ und68 held68]
  simp only [Program.fieldsOf, Tryd.underlying68]
  go_simp

set_option maxHeartbeats 1000000 in
theorem same_any (c : Chn) (hv sv hv' sv' : Value) (w : World) (hh : SlI w hv c.houses) (hs : SlL w sv c.sales) (hh' : SlI w hv' c.houses) (hs' : SlL w sv' c.sales) :
    Calls Tryd.prog 27 #[valC hv sv, valC hv' sv'] w fun e w' => e = .returned (.bool true) ∧ Ext w w' := by
  have HH := Lib.hid hh
  have HS := Lib.hid hs
  have HH' := Lib.hid hh'
  have HS' := Lib.hid hs'
  obtain ⟨A, n, cp, rfl, hn, hlc, hcm⟩ := hh.form
  obtain ⟨A2, n2, cp2, rfl, hn2, hlc2, hcm2⟩ := hs.form
  obtain ⟨A3, n3, cp3, rfl, hn3, hlc3, hcm3⟩ := hh'.form
  obtain ⟨A4, n4, cp4, rfl, hn4, hlc4, hcm4⟩ := hs'.form
  have e2 : n4 = n2 := by have := hn2.out; have := hn4.out; omega
  subst e2
  have nq := neq68s
  clear hh hs hh' hs'
  go_enter Tryd.func27, Tryd.ntmps27
  go_wp2_with fail
  refine (sameInts_any c.houses _ _ _ (HH.out.ext ((Ext.al _ _).alloc _)) (HH'.out.ext ((Ext.al _ _).alloc _))).mono ?_
  rintro e w1 ⟨rfl, hE⟩
  have HB1 := Lib.hid (show Blk w1 w.heap.size 25 #[.slice A n cp, .slice A2 n4 cp2] from ((Blk.new _ _ _).alloc _).ext hE)
  have HB2 := Lib.hid (show Blk w1 (w.heap.size + 1) 25 #[.slice A3 n3 cp3, .slice A4 n4 cp4] from (Blk.at_ (by simp)).ext hE)
  have HE := Lib.hid (((Ext.al _ _).alloc _).trans hE); clear hE
  have k1 := HB1.out.c2
  have k2 := HB2.out.c2
  go_wp2
  clear k1 k2
  go_loopg [5] n4 (fun gg s wr => ∃ (k : Nat), k ≤ n4 ∧ n4 - k ≤ gg ∧ s = .int .i64 k ∧ Aside (Blk wr w.heap.size 25 #[.slice A n cp, .slice A2 n4 cp2]) ∧ Aside (Blk wr (w.heap.size + 1) 25 #[.slice A3 n3 cp3, .slice A4 n4 cp4]) ∧ Aside (Ext w wr))
  case atStart => exact ⟨0, by omega, by omega, rfl, HB1.out, HB2.out, HE.out⟩
  case round =>
    clear HB1 HB2 HE
    obtain ⟨k, hk, hg, rfl, B1, B2, EW⟩ := hrel
    have q4 := B1.out.c2
    have r4 := B2.out.c2
    by_cases hlt : k < n4
    · have hjz : (k : Int) < (n4 : Int) := by omega
      obtain ⟨bb, off, x, rfl, hx, hb, hcell⟩ := HS.out.at_ hlt
      obtain ⟨bb', off', x', rfl, hx', hb', hcell'⟩ := HS'.out.at_ hlt
      have hxx : x' = x := by rw [hx] at hx'; injection hx' with h; exact h.symm
      subst hxx
      have f4 := fun W (h : Ext wr W) => (B1.out.ext h).c2
      have g4 := fun W (h : Ext wr W) => (B2.out.ext h).c2
      have f1 := fun W (h : Ext wr W) => (f4 W h).2.1
      have g1 := fun W (h : Ext wr W) => (g4 W h).2.1
      have c0 := fun W (h : Ext wr W) => (SlL.cells hcell (EW.out.trans h)).1
      have c1 := fun W (h : Ext wr W) => (SlL.cells hcell (EW.out.trans h)).2.1
      have c2 := fun W (h : Ext wr W) => (SlL.cells hcell (EW.out.trans h)).2.2.1
      have c3 := fun W (h : Ext wr W) => (SlL.cells hcell (EW.out.trans h)).2.2.2.1
      have c4 := fun W (h : Ext wr W) => (SlL.cells hcell (EW.out.trans h)).2.2.2.2
      have d0 := fun W (h : Ext wr W) => (SlL.cells hcell' (EW.out.trans h)).1
      have d1 := fun W (h : Ext wr W) => (SlL.cells hcell' (EW.out.trans h)).2.1
      have d2 := fun W (h : Ext wr W) => (SlL.cells hcell' (EW.out.trans h)).2.2.1
      have d3 := fun W (h : Ext wr W) => (SlL.cells hcell' (EW.out.trans h)).2.2.2.1
      have d4 := fun W (h : Ext wr W) => (SlL.cells hcell' (EW.out.trans h)).2.2.2.2
      clear hx hx' hcell hcell' f4 g4
      go_wp2
      refine wp_region_tame (fun W => Ext wr W) (fun W W' => Ext W W') (by kernel_rfl) 39 rfl (by decide +kernel) (Ext.refl _).drew ?_
      repeat (apply tame_q rfl; (intro ρ W hC hr hD; (obtain ⟨hrc, hrg, hrf, hrs⟩ := hr); (simp [go_sem] at hD); go_simp; first | exact ⟨⟨hC, Ext.refl _⟩, rfl⟩ | exact ⟨⟨hC, RS.refl _⟩, rfl⟩ | exact rfl); simp only [List.nil_append, List.cons_append])
      refine tame_end 39 rfl rfl (fun ρ W hC hr hF => ?_)
      obtain ⟨hrc, hrg, hrf, hrs⟩ := hr
      simp [go_sem] at hF
      apply frame_to
      · go_simp
        exact rfl
      clear hF hrs hrc hrg hrf
      have HC := Lib.hid hC; clear hC f1 g1 c0 c1 c2 c3 c4 d0 d1 d2 d3 d4
      go_wp2
      go_roundg (n4 - (k + 1))
      case measure => omega
      case rel => exact ⟨k + 1, by omega, by omega, rfl, B1.out.ext HC.out, B2.out.ext HC.out, EW.out.trans HC.out⟩
    · go_wp2
      go_ret
      exact ⟨rfl, EW.out⟩

/-! Twins. -/
theorem info68x : (Tryd.prog.info? 68).map (fun i => (i.zero, i.size, i.bytes)) = some (some (.agg #[.int .i64 0, .int .i64 0, .int .i64 0, .int .i64 0, .int .i64 0]), 5, 40) := by kernel_rfl
def EmptyAt (t : TypeId) (base : Nat) (v : Value) (W : World) : Prop := ∃ g, v = .slice (some ⟨g, 0, none⟩) 0 0 ∧ base ≤ g ∧ Blk W g t #[]
theorem EmptyAt.ext {t : TypeId} {base : Nat} {v : Value} {W W' : World} (h : EmptyAt t base v W) (e : Ext W W') : EmptyAt t base v W' := by
  obtain ⟨g, h1, h2, h3⟩ := h; exact ⟨g, h1, h2, h3.ext e⟩
def TwinC (c : Chn) (base : Nat) (v : Value) (W : World) : Prop := ∃ hv sv, v = valC hv sv ∧ Own encI 3 1 W base hv c.houses ∧ Own encL 68 5 W base sv c.sales
theorem TwinC.ext {c : Chn} {base : Nat} {v : Value} {W W' : World} (h : TwinC c base v W) (e : Ext W W') : TwinC c base v W' := by
  obtain ⟨hv, sv, h1, h2, h3⟩ := h; exact ⟨hv, sv, h1, h2.ext e, h3.ext e⟩
abbrev set2 (W : World) (g : Nat) (y0 y1 : Value) : World := (W.setCell ⟨g, 0, none⟩ y0).setCell ⟨g, 1, none⟩ y1
theorem Blk.set2 {W : World} {g : Nat} {t : TypeId} {x0 x1 : Value} (h : Blk W g t #[x0, x1]) (y0 y1 : Value) : Blk (set2 W g y0 y1) g t #[y0, y1] := by
  have := (h.set_ 0 y0).set_ 1 y1
  simpa using this
theorem ret_set2 {P : Program} {fn : Func} {R : Ending → World → Prop} {ex : Exit} {a : Act} {w1 : World} {g : Nat} {t : TypeId} {x0 x1 y0 y1 : Value} (hB : Blk w1 g t #[x0, x1])
    (h : ∀ W, (W.cell? ⟨g, 0, none⟩ = some y0 ∧ W.cell? ⟨g, 1, none⟩ = some y1) → w1.grownBy W (some g) → bodyPost P fn R ex a W) :
    bodyPost P fn R ex a ((w1.setCell ⟨g, 0, none⟩ y0).setCell ⟨g, 1, none⟩ y1) := by
  have K := hB.set2 y0 y1
  exact h _ ⟨K.cell 0, K.cell 1⟩ (grown_set (grown_set (World.grownBy.refl _ _) (p := ⟨g, 0, none⟩) (.inl rfl) y0) (p := ⟨g, 1, none⟩) (.inl rfl) y1)
end Go.Proofs.YtafdbgielmlihaaDoor
/- append of a part of a list at its place: every slice of a beginning of the list keeps it (AppF, for any seat). -/
namespace Go.Proofs.YtafdbgielmlihaaDoor
open Go.RowKit Go.Shelf Go.Lib
set_option maxRecDepth 100000
set_option linter.unusedSimpArgs false

theorem Sl.head {α : Type} {enc : α → List Value} {sz : Nat} {W : World} {A : Option Addr} {n c k : Nat} {l : List α} (h : Sl enc sz W (.slice A n c) l) (hk : k ≤ n) : Sl enc sz W (.slice A k c) (l.take k) := by
  obtain ⟨A', c', hv, hlc, hcm, hx⟩ := h
  injection hv with e1 e2 e3
  subst e1 e2 e3
  refine ⟨A, c, by rw [List.length_take, Nat.min_eq_left hk], by simp; omega, hcm, fun h0 => ?_⟩
  obtain ⟨b, off, hA, hb, hc⟩ := hx (by simp at h0; omega)
  refine ⟨b, off, hA, hb, fun i x hi => hc i x ?_⟩
  rw [List.getElem?_take] at hi
  split at hi
  · exact hi
  · cases hi
theorem Sl.single {α : Type} {enc : α → List Value} {sz : Nat} {W : World} {b c : Nat} {e : TypeId} {x : α} (h : Blk W b e (enc x).toArray) (h1 : 1 ≤ c) (hc : c ≤ maxLen) : Sl enc sz W (.slice (some ⟨b, 0, none⟩) 1 c) [x] := by
  refine ⟨_, c, rfl, h1, hc, fun _ => ⟨b, 0, rfl, h.lt, fun k y hk j w hw => ?_⟩⟩
  cases k with
  | zero =>
    simp at hk
    subst hk
    have := h.cell j
    rw [show 0 + 0 * sz + j = j by omega, this]
    simpa using hw
  | succ k => simp at hk
def OneF {α : Type} (enc : α → List Value) (e : TypeId) (x : α) (v : Value) (W : World) : Prop := ∃ g, v = .slice (some ⟨g, 0, none⟩) 1 1 ∧ Blk W g e (enc x).toArray
--DD
theorem take_over {β : Type} (cur X Z : List β) (h : X <+: Z ∨ Z <+: X) (hz : cur.take Z.length = Z) : (X ++ cur.drop X.length).take Z.length = Z := by
  rcases h with ⟨r, rfl⟩ | ⟨r, rfl⟩
  · have h2 : (cur.drop X.length).take r.length = r := by
      have : (cur.take (X ++ r).length).drop X.length = r := by rw [hz]; simp
      rw [List.drop_take] at this
      simpa using this
    rw [List.length_append, List.take_append, List.take_of_length_le (by omega), Nat.add_sub_cancel_left, h2]
  · simp
theorem flat_prefix {α β : Type} (enc : α → List β) {a b : List α} (h : a <+: b) : a.flatMap enc <+: b.flatMap enc := by
  obtain ⟨r, rfl⟩ := h
  rw [List.flatMap_append]
  exact List.prefix_append _ _

/-- A slice in new memory, without room if it is empty. -/
def NewF {α : Type} (enc : α → List Value) (sz : Nat) (e : TypeId) (base : Nat) (p : List α) (v : Value) (W : World) : Prop := Own enc e sz W base v p ∧ ∃ A c, v = .slice A p.length c ∧ (p.length = 0 → c = 0)
def RF {α : Type} (enc : α → List Value) (sz : Nat) (e : TypeId) (base : Nat) (F : List α) (y : α) (W W' : World) : Prop :=
  W.heap.size ≤ W'.heap.size ∧ (∀ z, z <+: F → ∀ v, Own enc e sz W base v z → Own enc e sz W' base v z) ∧ (∀ b, Blk W b e (enc y).toArray → Blk W' b e (enc y).toArray) ∧ ∀ b, Blk W b e #[] → Blk W' b e #[]
theorem RF.refl {α : Type} {enc : α → List Value} {sz : Nat} {e : TypeId} {base : Nat} {F : List α} {y : α} (W : World) : RF enc sz e base F y W W := ⟨Nat.le_refl _, fun _ _ _ h => h, fun _ h => h, fun _ h => h⟩
theorem RF.ext {α : Type} {enc : α → List Value} {sz : Nat} {e : TypeId} {base : Nat} {F : List α} {y : α} {W W' : World} (h : Ext W W') : RF enc sz e base F y W W' := ⟨h.size, fun _ _ _ k => k.ext h, fun _ k => k.ext h, fun _ k => k.ext h⟩

theorem run_appF {α : Type} {enc : α → List Value} {t ty e : TypeId} {sz : Nat} {z : Value} {bytes : Nat} (ht : Tryd.prog.underlying t = some (.slice e))
    (hinfo : (Tryd.prog.info? e).map (fun i => (i.zero, i.size, i.bytes)) = some (some z, sz, bytes)) (hzs : z.cells.size = sz) (hsz : 0 < sz) (hbytes : bytes ≤ 1000) (henc : ∀ x, (enc x).length = sz) (h1c : ∀ x, ∀ u ∈ enc x, u.oneCell' = true)
    {W : World} {base : Nat} {v x : Value} {F p m : List α} {y : α} (hv : NewF enc sz e base p v W) (hpm : p ++ m <+: F) (hF : F.length ≤ 1000) (hb : base ≤ W.heap.size) (hx : Sl enc sz W x m) :
    ∃ v' W', (Builtin.append_ #[t, t] ty #[v, x]).run Tryd.prog W = .ok v' W' ∧ NewF enc sz e base (p ++ m) v' W' ∧ RF enc sz e base F y W W' ∧ Below base W W' := by
  obtain ⟨i0, hi, hz0, hz1, hz2⟩ := info_parts hinfo
  obtain ⟨hown, A, c0, hv0, hc0⟩ := id hv
  have hpl := hpm.length_le
  rw [List.length_append] at hpl
  by_cases h0 : m.length = 0
  · have : m = [] := List.eq_nil_of_length_eq_zero h0
    subst this
    obtain ⟨A2, c2, rfl, _, _, _⟩ := hx
    obtain ⟨A3, n3, c3, e3, _, hlc, _⟩ := (Own.sl henc hown : Sl enc sz W v p).form
    have hrun := run_append_nothing (P := Tryd.prog) W t t ty e i0 ht hi A p.length c0 (by rw [hv0] at e3; injection e3 with _ e4 e5; omega) (.slice A2 0 c2)
      ⟨.inl ⟨e, ht⟩, fun _ => by simp [Builtin.lenOf], by cases A2 <;> simp [Builtin.firstCells, loadCells, loadCellsFrom], by cases A2 <;> simp [Builtin.firstCells, loadCells, loadCellsFrom], by simp, by simp⟩
    rw [← hv0] at hrun
    refine ⟨_, _, hrun, ?_, RF.refl _, Below.refl _ _⟩
    rw [List.append_nil]
    exact hv
  · obtain ⟨A2, c, rfl, hlc2, hcm2, hcell⟩ := id hx
    obtain ⟨b, off, rfl, hbb, _⟩ := hcell (by omega)
    clear hcell
    have hnews := Sl.flat henc hsz hx
    have hml := enc_len henc m
    have h1' : ∀ u ∈ m.flatMap enc, u.oneCell' = true := fun u hu => by
      obtain ⟨q, _, hq⟩ := List.mem_flatMap.1 hu
      exact h1c q u hq
    have hby : (p.length + m.length) * bytes ≤ 1000 * 1000 := Nat.mul_le_mul (by omega) hbytes
    obtain ⟨v', W', hr, h1, h2, _⟩ := run_append_own (P := Tryd.prog) W base t ty e i0 z sz bytes ht hi hz0 hz1 hz2 hzs hsz v p.length (p.flatMap enc) hown ⟨b, off, none⟩ m.length c (m.flatMap enc) hml hnews h1' (by unfold maxLen; omega) (by omega) hb
    have h1o : Own enc e sz W' base v' (p ++ m) := by unfold Own; rw [List.length_append, List.flatMap_append]; exact h1
    have hn' : NewF enc sz e base (p ++ m) v' W' := by
      obtain ⟨A4, n4, c4, e4, hn4, _, _⟩ := (Own.sl henc h1o : Sl enc sz W' v' (p ++ m)).form
      exact ⟨h1o, A4, c4, by rw [e4, hn4], fun h => by rw [List.length_append] at h; omega⟩
    refine ⟨v', W', hr, hn', ?_, (Below.refl base W).grown h2 hb (fun k hk => (World.ownsRow.lt hown k hk).1)⟩
    rcases id hown.2 with ⟨rfl, hp0⟩ | ⟨g, cap, cur, rfl, hg, hgg, hlc, hcm, hcs, htake⟩
    · have hE : Ext W W' := ⟨h2.os, h2.tape, h2.output, h2.size, fun i hi => h2.block i hi (by simp [Value.ownBlock])⟩
      exact RF.ext hE
    · have hpf := enc_len henc p
      by_cases hroom : p.length + m.length ≤ cap
      · have hl0 : p.length ≠ 0 := fun h => by
          injection hv0 with _ _ e3
          have := hc0 h
          omega
        have hmul : (p.length + m.length) * sz ≤ cap * sz := Nat.mul_le_mul_right _ hroom
        rw [Nat.add_mul] at hmul
        have hr2 := run_append_room (P := Tryd.prog) W t ty e i0 ht hi g p.length cap cur hgg ⟨b, off, none⟩ m.length c (m.flatMap enc) (by rw [hz1]; exact hml) hnews h1' (by exact hroom) (by rw [hz1, hcs, hml]; exact hmul)
        rw [hr] at hr2
        injection hr2 with hv' hW'
        rw [hz1, htake] at hW'
        have hX : ((p ++ m).flatMap enc).length = p.length * sz + (m.flatMap enc).length := by rw [List.flatMap_append, List.length_append, hpf]
        rw [← hX, ← List.flatMap_append] at hW'
        have hgW : W'.heap[g]? = some (.cells ((p ++ m).flatMap enc ++ cur.toList.drop ((p ++ m).flatMap enc).length).toArray e (0, 0)) := by
          rw [hW']; exact setRow_heap W g cur _ e _ hgg
        have hsz' : ((p ++ m).flatMap enc ++ cur.toList.drop ((p ++ m).flatMap enc).length).toArray.size = cap * sz := by
          simp only [List.size_toArray, List.length_append, List.length_drop, Array.length_toList, hcs]
          rw [hX, hml]; omega
        have hoth : ∀ k, k ≠ g → W'.heap[k]? = W.heap[k]? := fun k hk => by rw [hW']; exact setRow_other W g k _ hk
        have hne : ∀ b2 cs, Blk W b2 e cs → cs.size ≤ sz → b2 ≠ g := by
          intro b2 cs hB hs he
          subst he
          unfold Blk at hB
          rw [hgg] at hB
          injection hB with hB
          injection hB with e1 _ _
          rw [← e1, hcs] at hs
          have : cap ≤ 1 := Nat.le_of_mul_le_mul_right (by omega) hsz
          omega
        refine ⟨h2.size, fun z' hz v2 ho => ?_, fun b2 hB => (hoth b2 (hne b2 _ hB (by simp [henc]))).trans hB, fun b2 hB => (hoth b2 (hne b2 _ hB (by simp))).trans hB⟩
        rcases id ho.2 with ⟨rfl, hn⟩ | ⟨g2, cap2, cur2, rfl, hg2, hgg2, hlc2, hcm2, hcs2, ht2⟩
        · exact ⟨ho.1, .inl ⟨rfl, hn⟩⟩
        · refine ⟨ho.1, .inr ?_⟩
          by_cases he : g2 = g
          · subst he
            rw [hgg] at hgg2
            injection hgg2 with hgg2
            injection hgg2 with e1 _ _
            subst e1
            refine ⟨g2, cap2, _, rfl, hg2, hgW, hlc2, hcm2, by rw [hsz']; omega, ?_⟩
            have := take_over cur.toList ((p ++ m).flatMap enc) (z'.flatMap enc) ((List.prefix_or_prefix_of_prefix hpm hz).imp (flat_prefix enc) (flat_prefix enc)) (by rw [enc_len henc]; exact ht2)
            rw [enc_len henc z'] at this
            exact this
          · exact ⟨g2, cap2, cur2, rfl, hg2, (hoth g2 he).trans hgg2, hlc2, hcm2, by omega, ht2⟩
      · have holds : ∀ j u, (p.flatMap enc)[j]? = some u → W.cell? ((⟨g, 0, none⟩ : Addr).add j) = some u := World.ownsRow.cells hown (g := g) rfl
        have hr2 := run_append_grow (P := Tryd.prog) W t ty e i0 z ht hi hz0 ⟨g, 0, none⟩ p.length cap (p.flatMap enc) (by rw [hz1]; exact hpf) holds ⟨b, off, none⟩ m.length c (m.flatMap enc) (by rw [hz1]; exact hml) hnews (by omega) (by omega) (growslice_fits (by omega) (by rw [hz2]; omega))
        rw [hr] at hr2
        injection hr2 with hv' hW'
        subst hW'
        exact RF.ext ((Ext.refl W).drew.alloc _)
end Go.Proofs.YtafdbgielmlihaaDoor
/- A drawn region that ends 'x, e = call': a cell is made for x, the result is stored into it, and e is given; in whatever order, the cell then holds the result. -/
namespace Go.Proofs.YtafdbgielmlihaaDoor
open Go.RowKit Go.Shelf Go.Lib
set_option maxRecDepth 100000
set_option linter.unusedSimpArgs false
set_option linter.unusedVariables false

section
variable {P : Program} {C : World → Prop} {R : World → World → Prop} {a0 : Act} {ds : List (Option Tmp)} {Q : Act → World → Prop} {I : (Nat → Bool) → (Nat → Value) → World → Prop} {n : Nat} {o : Oper} {rest : List Oper} {F : Facts}
/-- An operation that gives nothing, of which the word speaks. -/
theorem tameD_n (hd : o.dst = none) (hg : o.guard = none)
    (hstep : ∀ ρ L W, C W → Rd a0 ds ρ → I L (fun t => ρ (.tmp t)) W → L F.length = false → (∀ e ∈ o.after, Region.binds .any e = true → L e.on = true) → (∀ e ∈ o.after, Region.binds .any e = true → Fact F ρ W e.on) → opGives P C R o ρ W (fun _ W' => I (updD L F.length true) (fun t => ρ (.tmp t)) W'))
    (h : wpTameD P C R I ds a0 Q n rest (F ++ [(none, fun _ _ => True)])) : wpTameD P C R I ds a0 Q n (o :: rest) F := by
  refine ⟨fun _ _ => True, fun _ _ _ _ _ h => h, fun L A W hC hS hIA hL hLs hD => ⟨hg, ?_⟩, by rw [hd]; exact h⟩
  refine opGives_monoD (hstep A.eval L W hC (Rd.of hS) hIA hL hLs hD) fun v W' _ hv => ?_
  rw [hd]
  exact ⟨trivial, hv⟩
end
/-- All blocks of other types stand still. -/
def RX (t : TypeId) (W W' : World) : Prop := ∀ b s cs, s ≠ t → Blk W b s cs → Blk W' b s cs
theorem RX.ext {t : TypeId} {W W' : World} (h : Ext W W') : RX t W W' := fun _ _ _ _ hb => hb.ext h
theorem Blk.type_eq {W : World} {b : Nat} {s t : TypeId} {cs ds : Array Value} (h : Blk W b s cs) (k : Blk W b t ds) : s = t := by
  unfold Blk at h k
  rw [h] at k
  injection k with k
  injection k
theorem RX.set {t : TypeId} {W : World} {g : Nat} {cs : Array Value} (h : Blk W g t cs) {i : Nat} {u : Value} : RX t W (W.setCell ⟨g, i, none⟩ u) := fun b s ds hs hb => hb.far (fun e => by
  have e : b = g := e
  subst e
  exact hs (hb.type_eq h)) u
theorem RX.trans {t : TypeId} {W V U : World} (h : RX t W V) (k : RX t V U) : RX t W U := fun b s cs hs hb => k b s cs hs (h b s cs hs hb)
theorem own_RX {α : Type} {enc : α → List Value} {e t : TypeId} {sz base : Nat} {W W' : World} {v : Value} {l : List α} (h : Own enc e sz W base v l) (hne : e ≠ t) (hR : RX t W W') : Own enc e sz W' base v l := by
  refine ⟨h.1, ?_⟩
  rcases h.2 with h2 | ⟨g2, cap, cur, e1, hb2, hg, h5⟩
  · exact .inl h2
  · exact .inr ⟨g2, cap, cur, e1, hb2, hR _ _ _ hne hg, h5⟩
def TwinU (C : Chn) (v : Value) (W : World) : Prop := ∃ base, TwinC C base v W
theorem TwinU.ext {C : Chn} {v : Value} {w w' : World} (h : TwinU C v w) (e : Ext w w') : TwinU C v w' := by
  obtain ⟨b, h⟩ := h; exact ⟨b, h.ext e⟩
theorem TwinU.rx {C : Chn} {v : Value} {w w' : World} (h : TwinU C v w) (e : RX 25 w w') : TwinU C v w' := by
  obtain ⟨b, hv, sv, h1, h2, h3⟩ := h; exact ⟨b, hv, sv, h1, own_RX h2 (by decide) e, own_RX h3 (by decide) e⟩
def PutV (C : Chn) (v : Value) (W : World) : Prop := ∃ u, v = .tuple #[u, .int .i64 0] ∧ TwinU C u W
theorem PutV.rx {C : Chn} {v : Value} {w w' : World} (h : PutV C v w) (e : RX 25 w w') : PutV C v w' := by
  obtain ⟨u, h1, h⟩ := h; exact ⟨u, h1, h.rx e⟩
/-- The word: operation pe draws the result out into the slot V, operation pa makes the cell (slot S), operation ps stores it there. -/
structure XI (base pe pa ps S V : Nat) (L : Nat → Bool) (e : Nat → Value) (W : World) : Prop where
  a : L pa = true → ∃ g, e S = .pointer (some ⟨g, 0, none⟩) ∧ base ≤ g ∧ (L ps = false → Blk W g 25 #[.slice none 0 0, .slice none 0 0]) ∧ (L ps = true → ∃ u0 u1, e V = .agg #[u0, u1] ∧ Blk W g 25 #[u0, u1])
  s : L ps = true → L pa = true ∧ L pe = true
theorem XI.start {base pe pa ps S V : Nat} {e : Nat → Value} {W : World} : XI base pe pa ps S V (fun _ => false) e W := ⟨(fun h => by cases h), (fun h => by cases h)⟩
/-- Another operation. -/
theorem XI.other {base pe pa ps S V : Nat} {L : Nat → Bool} {e : Nat → Value} {W W' : World} (h : XI base pe pa ps S V L e W) (hE : Ext W W') {i d : Nat} (hi : i ≠ pa ∧ i ≠ ps) (hd : d ≠ S) (hV : d = V → i = pe ∧ L i = false) (v : Value) : XI base pe pa ps S V (updD L i true) (updD e d v) W' := by
  have e1 : (updD L i true) pa = L pa := by unfold updD; rw [if_neg (Ne.symm hi.1)]
  have e2 : (updD L i true) ps = L ps := by unfold updD; rw [if_neg (Ne.symm hi.2)]
  have e3 : (updD e d v) S = e S := by unfold updD; rw [if_neg (Ne.symm hd)]
  refine ⟨fun ha => ?_, fun hs => ?_⟩
  · rw [e1] at ha
    obtain ⟨g, h1, h2, h3, h4⟩ := h.a ha
    refine ⟨g, by rw [e3, h1], h2, fun hs => ?_, fun hs => ?_⟩
    · rw [e2] at hs
      exact (h3 hs).ext hE
    · rw [e2] at hs
      obtain ⟨u0, u1, k1, k2⟩ := h4 hs
      refine ⟨u0, u1, ?_, k2.ext hE⟩
      by_cases hdv : d = V
      · obtain ⟨q1, q2⟩ := hV hdv
        have := (h.s hs).2
        rw [← q1, q2] at this
        cases this
      · unfold updD
        rw [if_neg (Ne.symm hdv)]
        exact k1
  · rw [e2] at hs
    rw [e1]
    refine ⟨(h.s hs).1, ?_⟩
    unfold updD
    split
    · rfl
    · exact (h.s hs).2
theorem XI.made {base pe pa ps S V : Nat} {L : Nat → Bool} {e : Nat → Value} {W : World} (h : XI base pe pa ps S V L e W) (hn : pa ≠ ps ∧ pa ≠ pe ∧ V ≠ S) (hL : L pa = false) (hb : base ≤ W.heap.size) :
    XI base pe pa ps S V (updD L pa true) (updD e S (.pointer (some ⟨W.heap.size, 0, none⟩))) (W.alloc (.cells #[.slice none 0 0, .slice none 0 0] 25)) := by
  have e2 : (updD L pa true) ps = L ps := by unfold updD; rw [if_neg (Ne.symm hn.1)]
  have e3 : L ps = false := by
    cases hs : L ps with
    | false => rfl
    | true => have := (h.s hs).1; rw [hL] at this; cases this
  refine ⟨fun _ => ⟨W.heap.size, by unfold updD; rw [if_pos rfl], hb, fun _ => Blk.new _ _ _, fun hs => by rw [e2, e3] at hs; cases hs⟩, fun hs => by rw [e2, e3] at hs; cases hs⟩
theorem XI.stored {base pe pa ps S V : Nat} {L : Nat → Bool} {e : Nat → Value} {W : World} (h : XI base pe pa ps S V L e W) (hn : pa ≠ ps ∧ pe ≠ ps) (ha : L pa = true) (he : L pe = true) (hs : L ps = false) {u0 u1 : Value} (hv : e V = .agg #[u0, u1]) :
    ∃ g, e S = .pointer (some ⟨g, 0, none⟩) ∧ base ≤ g ∧ Blk W g 25 #[.slice none 0 0, .slice none 0 0] ∧ XI base pe pa ps S V (updD L ps true) e ((W.setCell ⟨g, 0, none⟩ u0).setCell ⟨g, 1, none⟩ u1) := by
  obtain ⟨g, h1, h2, h3, -⟩ := h.a ha
  have hB := h3 hs
  refine ⟨g, h1, h2, hB, ⟨fun _ => ⟨g, h1, h2, fun hk => ?_, fun _ => ⟨u0, u1, hv, hB.set2 _ _⟩⟩, fun _ => ?_⟩⟩
  · unfold updD at hk
    rw [if_pos rfl] at hk
    cases hk
  · unfold updD
    rw [if_neg hn.1, if_neg hn.2]
    exact ⟨ha, he⟩
end Go.Proofs.YtafdbgielmlihaaDoor
