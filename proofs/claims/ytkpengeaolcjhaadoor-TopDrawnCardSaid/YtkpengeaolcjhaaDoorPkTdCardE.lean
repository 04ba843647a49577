/- The reference's sides: whether a bale was surely, or never, too damp at a weighing. -/
import Derived.Test.YtkpengeaolcjhaaDoorPkMlTellsCardM
import Derived.Test.YtkpengeaolcjhaaDoorPkTdCardD
import Derived.Test.YtkpengeaolcjhaaDoorPkMlTellsCardL
namespace Go.Proofs.YtkpengeaolcjhaaDoor
open Go.RowKit Go.Shelf
set_option maxRecDepth 100000
set_option linter.unusedSimpArgs false

def hitsR (d : Int) (x : Weigh) : Span := hitsTo d x ⟨201, -1⟩ (x.damp.hi - x.damp.lo + 1).toNat
def wetR (damp : Int) (ws : List Weigh) (d : Int) : Bool := ws.any fun x => decide (damp < (hitsR d x).lo)
def dryR (damp : Int) (ws : List Weigh) (d : Int) : Bool := ws.all fun x => decide ((hitsR d x).hi ≤ damp)
def surelyR (b : Bale) (damp : Int) : Bool := (dries b).all (wetR damp b.weighs)
def neverR (b : Bale) (damp : Int) : Bool := (dries b).all (dryR damp b.weighs)
theorem anyx_snoc {α : Type} (p : α → Bool) (l : List α) (k : Nat) (x : α) (h : l[k]? = some x) : (l.take (k + 1)).any p = ((l.take k).any p || p x) := by
  rw [List.take_add_one, h]; simp
theorem allx_snoc {α : Type} (p : α → Bool) (l : List α) (k : Nat) (x : α) (h : l[k]? = some x) : (l.take (k + 1)).all p = ((l.take k).all p && p x) := by
  rw [List.take_add_one, h]; simp

end Go.Proofs.YtkpengeaolcjhaaDoor
/- The reference's Aside. -/
namespace Go.Proofs.YtkpengeaolcjhaaDoor
open Go.RowKit Go.Shelf
set_option maxRecDepth 100000
set_option linter.unusedSimpArgs false

def asideOf (plain : Int) (surely never : Bool) : Int := if plain = 0 ∨ surely = true then 2 else if plain = 2 ∧ never = true then 0 else 1
def asideR (b : Bale) (damp : Int) : Int := if askE b (inB 0 200 damp) 35 = 0 then asideOf (kindK (kindS b) 1) (surelyR b damp) (neverR b damp) else 0
theorem kindK_cases (s : S4) (k : Int) : kindK s k = 0 ∨ kindK s k = 1 ∨ kindK s k = 2 := by unfold kindK; split; split; all_goals simp

end Go.Proofs.YtkpengeaolcjhaaDoor
/- core.Aside. -/
namespace Go.Proofs.YtkpengeaolcjhaaDoor
open Go.RowKit Go.Shelf
set_option maxRecDepth 100000
set_option linter.unusedSimpArgs false

theorem f89_any (r : Int) (g : Nat) (w : World) (h1 : w.cell? ⟨g, 0, none⟩ = some (.int .i64 r)) :
    Calls Tryd.prog 89 #[.pointer (some ⟨g, 0, none⟩)] w fun e w' => e = .returned (.bool (inB 0 200 r)) ∧ Ext w w' := by
  go_enter Tryd.func89, Tryd.ntmps89
  go_wp2_with fail
  refine (in1_any 0 200 r _ _ (by simp) (by simp [go_sem])).mono ?_
  rintro e w1 ⟨rfl, hb⟩
  have HB := Lib.hid hb; clear hb
  go_wp2
  go_ret
  exact ⟨rfl, (Ext.al _ _).trans HB.out⟩

set_option maxHeartbeats 1000000 in
theorem f91_any (d most : Int) (x : Weigh) (gd gm : Nat) (w : World) (hd : w.cell? ⟨gd, 0, none⟩ = some (.int .i64 d)) (hm : w.cell? ⟨gm, 0, none⟩ = some (.int .i64 most)) (hld : gd < w.heap.size) (hlm : gm < w.heap.size)
    (hd0 : 0 ≤ d) (hd1 : d ≤ 1000000) (hx0 : 0 ≤ x.damp.lo) (hx1 : x.damp.hi ≤ 1000) (hx2 : x.damp.lo ≤ x.damp.hi) (hc : could d x = true) :
    Calls Tryd.prog 91 #[valW x, .pointer (some ⟨gd, 0, none⟩), .pointer (some ⟨gm, 0, none⟩)] w fun e w' => e = .returned (.bool (decide (most < dLo d x))) ∧ Ext w w' := by
  have HC := Lib.hid hc; clear hc
  have k0 := fun W (h : Ext (w.alloc (.cells #[.int .i64 x.number, .int .i64 x.pounds, .int .i64 x.damp.lo, .int .i64 x.damp.hi] 141)) W) => (((Ext.al w _).trans h).cells.1 gd 0 hld).trans hd
  have k1 := fun W (h : Ext (w.alloc (.cells #[.int .i64 x.number, .int .i64 x.pounds, .int .i64 x.damp.lo, .int .i64 x.damp.hi] 141)) W) => (((Ext.al w _).trans h).cells.1 gm 0 hlm).trans hm
  have k2 := fun W (h : Ext (w.alloc (.cells #[.int .i64 x.number, .int .i64 x.pounds, .int .i64 x.damp.lo, .int .i64 x.damp.hi] 141)) W) => (h.cells.1 w.heap.size 0 (by simp)).trans (show _ = some (.int .i64 x.number) by simp [go_sem])
  have k3 := fun W (h : Ext (w.alloc (.cells #[.int .i64 x.number, .int .i64 x.pounds, .int .i64 x.damp.lo, .int .i64 x.damp.hi] 141)) W) => (h.cells.1 w.heap.size 1 (by simp)).trans (show _ = some (.int .i64 x.pounds) by simp [go_sem])
  have k4 := fun W (h : Ext (w.alloc (.cells #[.int .i64 x.number, .int .i64 x.pounds, .int .i64 x.damp.lo, .int .i64 x.damp.hi] 141)) W) => (h.cells.1 w.heap.size 2 (by simp)).trans (show _ = some (.int .i64 x.damp.lo) by simp [go_sem])
  have k5 := fun W (h : Ext (w.alloc (.cells #[.int .i64 x.number, .int .i64 x.pounds, .int .i64 x.damp.lo, .int .i64 x.damp.hi] 141)) W) => (h.cells.1 w.heap.size 3 (by simp)).trans (show _ = some (.int .i64 x.damp.hi) by simp [go_sem])
  go_enter Tryd.func91, Tryd.ntmps91
  dsimp only [valW]
  go_wp2
  refine wp_region_tame (fun W => Ext (w.alloc (.cells #[.int .i64 x.number, .int .i64 x.pounds, .int .i64 x.damp.lo, .int .i64 x.damp.hi] 141)) W) (fun W W' => Ext W W') (by kernel_rfl) 11 rfl (by decide +kernel) (Ext.refl _).drew ?_
  repeat (apply tame_q rfl; (intro ρ W hC hr hD; (obtain ⟨hrc, hrg, hrf, hrs⟩ := hr); (simp [go_sem] at hD); go_simp; first | exact ⟨⟨hC, Ext.refl _⟩, rfl⟩ | exact ⟨⟨hC, RS.refl _⟩, rfl⟩ | exact rfl); simp only [List.nil_append, List.cons_append])
  apply tame_q rfl
  · intro ρ W hC hr hD
    obtain ⟨hrc, hrg, hrf, hrs⟩ := hr
    simp [go_sem] at hD
    go_simp
    refine (damp_any d x _ hd0 hd1 hx0 hx1 hx2 HC.out).mono ?_
    rintro e w' ⟨rfl, hE⟩
    exact ⟨_, rfl, ⟨hC.trans hE, hE⟩, rfl⟩
  simp only [List.nil_append, List.cons_append]
  repeat (apply tame_q rfl; (intro ρ W hC hr hD; (obtain ⟨hrc, hrg, hrf, hrs⟩ := hr); (simp [go_sem] at hD); go_simp; first | exact ⟨⟨hC, Ext.refl _⟩, rfl⟩ | exact ⟨⟨hC, RS.refl _⟩, rfl⟩ | exact rfl); simp only [List.nil_append, List.cons_append])
  refine tame_end 11 rfl rfl (fun ρ W hC hr hF => ?_)
  obtain ⟨hrc, hrg, hrf, hrs⟩ := hr
  simp [go_sem] at hF
  apply frame_to
  · go_simp
    exact rfl
  clear hF hrs hrc hrg hrf k0 k1 k2 k3 k4 k5
  have HE := Lib.hid ((Ext.al w _).trans hC); clear hC
  go_wp2
  go_ret
  exact ⟨rfl, HE.out⟩
set_option maxHeartbeats 1000000 in
theorem f93_any (d most : Int) (x : Weigh) (gd gm : Nat) (w : World) (hd : w.cell? ⟨gd, 0, none⟩ = some (.int .i64 d)) (hm : w.cell? ⟨gm, 0, none⟩ = some (.int .i64 most)) (hld : gd < w.heap.size) (hlm : gm < w.heap.size)
    (hd0 : 0 ≤ d) (hd1 : d ≤ 1000000) (hx0 : 0 ≤ x.damp.lo) (hx1 : x.damp.hi ≤ 1000) (hx2 : x.damp.lo ≤ x.damp.hi) (hc : could d x = true) :
    Calls Tryd.prog 93 #[valW x, .pointer (some ⟨gd, 0, none⟩), .pointer (some ⟨gm, 0, none⟩)] w fun e w' => e = .returned (.bool (decide (most < dHi d x))) ∧ Ext w w' := by
  have HC := Lib.hid hc; clear hc
  have k0 := fun W (h : Ext (w.alloc (.cells #[.int .i64 x.number, .int .i64 x.pounds, .int .i64 x.damp.lo, .int .i64 x.damp.hi] 141)) W) => (((Ext.al w _).trans h).cells.1 gd 0 hld).trans hd
  have k1 := fun W (h : Ext (w.alloc (.cells #[.int .i64 x.number, .int .i64 x.pounds, .int .i64 x.damp.lo, .int .i64 x.damp.hi] 141)) W) => (((Ext.al w _).trans h).cells.1 gm 0 hlm).trans hm
  have k2 := fun W (h : Ext (w.alloc (.cells #[.int .i64 x.number, .int .i64 x.pounds, .int .i64 x.damp.lo, .int .i64 x.damp.hi] 141)) W) => (h.cells.1 w.heap.size 0 (by simp)).trans (show _ = some (.int .i64 x.number) by simp [go_sem])
  have k3 := fun W (h : Ext (w.alloc (.cells #[.int .i64 x.number, .int .i64 x.pounds, .int .i64 x.damp.lo, .int .i64 x.damp.hi] 141)) W) => (h.cells.1 w.heap.size 1 (by simp)).trans (show _ = some (.int .i64 x.pounds) by simp [go_sem])
  have k4 := fun W (h : Ext (w.alloc (.cells #[.int .i64 x.number, .int .i64 x.pounds, .int .i64 x.damp.lo, .int .i64 x.damp.hi] 141)) W) => (h.cells.1 w.heap.size 2 (by simp)).trans (show _ = some (.int .i64 x.damp.lo) by simp [go_sem])
  have k5 := fun W (h : Ext (w.alloc (.cells #[.int .i64 x.number, .int .i64 x.pounds, .int .i64 x.damp.lo, .int .i64 x.damp.hi] 141)) W) => (h.cells.1 w.heap.size 3 (by simp)).trans (show _ = some (.int .i64 x.damp.hi) by simp [go_sem])
  go_enter Tryd.func93, Tryd.ntmps93
  dsimp only [valW]
  go_wp2
  refine wp_region_tame (fun W => Ext (w.alloc (.cells #[.int .i64 x.number, .int .i64 x.pounds, .int .i64 x.damp.lo, .int .i64 x.damp.hi] 141)) W) (fun W W' => Ext W W') (by kernel_rfl) 11 rfl (by decide +kernel) (Ext.refl _).drew ?_
  repeat (apply tame_q rfl; (intro ρ W hC hr hD; (obtain ⟨hrc, hrg, hrf, hrs⟩ := hr); (simp [go_sem] at hD); go_simp; first | exact ⟨⟨hC, Ext.refl _⟩, rfl⟩ | exact ⟨⟨hC, RS.refl _⟩, rfl⟩ | exact rfl); simp only [List.nil_append, List.cons_append])
  apply tame_q rfl
  · intro ρ W hC hr hD
    obtain ⟨hrc, hrg, hrf, hrs⟩ := hr
    simp [go_sem] at hD
    go_simp
    refine (damp_any d x _ hd0 hd1 hx0 hx1 hx2 HC.out).mono ?_
    rintro e w' ⟨rfl, hE⟩
    exact ⟨_, rfl, ⟨hC.trans hE, hE⟩, rfl⟩
  simp only [List.nil_append, List.cons_append]
  repeat (apply tame_q rfl; (intro ρ W hC hr hD; (obtain ⟨hrc, hrg, hrf, hrs⟩ := hr); (simp [go_sem] at hD); go_simp; first | exact ⟨⟨hC, Ext.refl _⟩, rfl⟩ | exact ⟨⟨hC, RS.refl _⟩, rfl⟩ | exact rfl); simp only [List.nil_append, List.cons_append])
  refine tame_end 11 rfl rfl (fun ρ W hC hr hF => ?_)
  obtain ⟨hrc, hrg, hrf, hrs⟩ := hr
  simp [go_sem] at hF
  apply frame_to
  · go_simp
    exact rfl
  clear hF hrs hrc hrg hrf k0 k1 k2 k3 k4 k5
  have HE := Lib.hid ((Ext.al w _).trans hC); clear hC
  go_wp2
  go_ret
  exact ⟨rfl, HE.out⟩

def surelyL (b : Bale) (damp : Int) : Bool := (dries b).all fun d => b.weighs.any fun x => decide (damp < dLo d x)
def mayL (b : Bale) (damp : Int) : Bool := (dries b).any fun d => b.weighs.any fun x => decide (damp < dHi d x)
def asideL (su my : Bool) (s : S4) : Int := if su || !s.has 1 then 2 else if my || decide (1 < s.num) then 1 else 0
def asideB (b : Bale) (damp : Int) : Int := if askE b (inB 0 200 damp) 35 = 0 then asideL (surelyL b damp) (mayL b damp) (kindS b) else 0

set_option maxHeartbeats 4000000 in
theorem aside_any (b : Bale) (r : Int) (dv wv : Value) (w : World) (hT : Tab w) (hd : SlD w dv b.draws) (hw : SlW w wv b.weighs) :
    Calls Tryd.prog 43 #[valB b dv wv, .int .i64 r] w fun e w' => e = .returned (.tuple #[.int .u8 (asideB b r), .int .i64 (askE b (inB 0 200 r) 35)]) ∧ Ext w w' := by
  have HT := Lib.hid hT
  have HD := Lib.hid hd
  have HW := Lib.hid hw
  obtain ⟨A, n, cp, rfl, hn, hlc, hcm⟩ := hd.form
  obtain ⟨A2, n2, cp2, rfl, hn2, hlc2, hcm2⟩ := hw.form
  clear hd hw hT
  go_enter Tryd.func43, Tryd.ntmps43
  go_wp2_with fail
  refine (asked_fn b _ _ _ 89 _ (enters_of Tryd.func89 (by kernel_rfl) rfl) (inB 0 200 r) 35 (by decide) (fun hv W hW => f89_any r _ W ((hW.cell (p := ⟨w.heap.size + 1, 0, none⟩) (by simp)).trans (by simp [go_sem]))) ((HT.out.ext (Ext.al _ _)).ext (Ext.al _ _)) ((HD.out.ext (Ext.al _ _)).ext (Ext.al _ _)) ((HW.out.ext (Ext.al _ _)).ext (Ext.al _ _))).mono ?_
  rintro e w1 ⟨pv, rfl, hpv, hpz, hE⟩
  have HEW := Lib.hid (((Ext.al w _).alloc _ : Ext w _).trans hE)
  have HBX := Lib.hid (((Blk.at_ (t := 59) (cs := #[.int .i64 b.id, .int .i64 b.layers, .int .i64 b.dry.lo, .int .i64 b.dry.hi, .slice A n cp, .slice A2 n2 cp2]) (w := w) (g := w.heap.size) rfl).alloc _).ext hE)
  have HBD := Lib.hid ((Blk.at_ (t := 3) (cs := #[.int .i64 r]) (w := w.alloc (.cells #[.int .i64 b.id, .int .i64 b.layers, .int .i64 b.dry.lo, .int .i64 b.dry.hi, .slice A n cp, .slice A2 n2 cp2] 59)) (g := w.heap.size + 1) (by simp)).ext hE)
  clear hE
  by_cases hz9 : askE b (inB 0 200 r) 35 = 0
  · obtain ⟨sv, lv, rfl, hs, hl⟩ := hpv hz9
    obtain ⟨h1, h2, h3⟩ := askE_zero hz9 (by decide)
    have hb5 := valid_bds h1
    have HK := Lib.hid (show asideB b r = asideL (surelyL b r) (mayL b r) (kindS b) by unfold asideB; rw [if_pos hz9])
    have HZ := Lib.hid hz9
    have HB5 := Lib.hid hb5
    obtain ⟨Al, nl, cl, rfl, hnl, hlc', hlm⟩ := hl.form
    have hln := spans_len b
    have hl0 : 0 < (spans b).length := by have := hb5.l1; omega
    have hl5 : (spans b).length ≤ 5 := by have := hb5.l5; omega
    obtain ⟨As, cs, rfl, hsc, hsm, hcx⟩ := id hs
    obtain ⟨bs, os, rfl, -, -⟩ := hcx hl0
    have HS := Lib.hid hs; have HL := Lib.hid hl
    have hbd : ∀ x ∈ spans b, 0 ≤ x.lo ∧ x.lo ≤ 1000 ∧ x.hi ≤ 1000 := fun x hx => by have := spans_bd h1 x hx; omega
    have HMA := Lib.hid (fun W hS => kinds_any b (.slice A n cp) (.slice A2 n2 cp2) (.slice Al nl cl) bs os cs (spans b) 0 0 0 0 0 W hl5 hl0 hbd hS)
    have HFP := Lib.hid (show ∀ d ∈ dries b, ∀ x ∈ b.weighs, Fit d x from fun d hd x hx => bds_fit hb5 hd hx)
    have HWB := Lib.hid (show ∀ x ∈ b.weighs, x.damp.hi ≤ 1000 from fun x hx => by have := hb5.w x hx; omega)
    generalize hsp : spans b = sp at *
    have HSP := Lib.hid hsp
    rw [hz9]
    dsimp only [valP]
    clear hz9 hs hl hsc hsm hcx hbd hb5 h1 h2 h3 hpv hpz hsp hln hl0 hl5
    have HBP := Lib.hid (Blk.new w1 147 #[.int .i64 b.id, .int .i64 b.layers, .int .i64 b.dry.lo, .int .i64 b.dry.hi, .slice A n cp, .slice A2 n2 cp2, .slice (some ⟨bs, os, none⟩) sp.length cs, .slice Al nl cl])
    go_wp2
    go_loopg [8, 9, 11, 25] nl (fun gg s8 s9 _ s25 wr => ∃ j : Nat, j ≤ nl ∧ nl - j ≤ gg ∧ s25 = .int .i64 j ∧ s8 = .bool (((dries b).take j).all fun d => b.weighs.any fun x => decide (r < dLo d x)) ∧ s9 = .bool (((dries b).take j).any fun d => b.weighs.any fun x => decide (r < dHi d x)) ∧ Aside (Ext (w1.alloc (.cells #[.int .i64 b.id, .int .i64 b.layers, .int .i64 b.dry.lo, .int .i64 b.dry.hi, .slice A n cp, .slice A2 n2 cp2, .slice (some ⟨bs, os, none⟩) sp.length cs, .slice Al nl cl] 147)) wr))
    case atStart => exact ⟨0, by omega, by omega, rfl, rfl, rfl, Ext.refl _⟩
    case round =>
      obtain ⟨j, hj, hgj, rfl, rfl, rfl, EX⟩ := hrel
      have HBXR := Lib.hid ((HBX.out.ext ((Ext.al _ _).trans EX.out)))
      have HBDR := Lib.hid ((HBD.out.ext ((Ext.al _ _).trans EX.out)))
      have HBPR := Lib.hid (HBP.out.ext EX.out)
      have HER := Lib.hid (HEW.out.trans ((Ext.al _ _).trans EX.out))
      by_cases hjn : j < nl
      · have hjz : (j : Int) < (nl : Int) := by omega
        obtain ⟨bb, off, d, rfl, hd, hbb, hcell⟩ := HL.out.at_ hjn
        have c0 := Sl.int hcell _ ((Ext.al _ _).trans EX.out)
        have HSN := Lib.hid (allx_snoc (fun d => b.weighs.any fun x => decide (r < dLo d x)) _ _ _ hd)
        have HDN := Lib.hid (anyx_snoc (fun d => b.weighs.any fun x => decide (r < dHi d x)) _ _ _ hd)
        have HFD := Lib.hid (HFP.out d (List.mem_of_getElem? hd))
        clear hd hcell
        generalize hwd : wr.alloc (.cells #[.int .i64 d] 3) = wd
        have HED := Lib.hid (show Ext wr wd by rw [← hwd]; exact Ext.al _ _)
        have HBC := Lib.hid (show Blk wd wr.heap.size 3 #[.int .i64 d] by rw [← hwd]; exact Blk.new _ _ _)
        have HWD := Lib.hid hwd
        clear hwd
        have HP1 := Lib.hid (show ∀ W, Ext wd W → Pred valW 91 #[.pointer (some ⟨wr.heap.size, 0, none⟩), .pointer (some ⟨w.heap.size + 1, 0, none⟩)] (fun x => decide (r < dLo d x)) b.weighs W from fun W hW W' x hx hW' => by
          have f := HFD.out x hx
          have c1 := (HBC.out.ext (hW.trans hW'))
          have c2 := (HBDR.out.ext (HED.out.trans (hW.trans hW')))
          exact f91_any d r x _ _ W' (c1.cell 0) (c2.cell 0) c1.lt c2.lt f.d0 (by have := f.d1; omega) f.r0 (HWB.out x hx) f.r1 f.c)
        have HP2 := Lib.hid (show ∀ W, Ext wd W → Pred valW 93 #[.pointer (some ⟨wr.heap.size, 0, none⟩), .pointer (some ⟨w.heap.size + 1, 0, none⟩)] (fun x => decide (r < dHi d x)) b.weighs W from fun W hW W' x hx hW' => by
          have f := HFD.out x hx
          have c1 := (HBC.out.ext (hW.trans hW'))
          have c2 := (HBDR.out.ext (HED.out.trans (hW.trans hW')))
          exact f93_any d r x _ _ W' (c1.cell 0) (c2.cell 0) c1.lt c2.lt f.d0 (by have := f.d1; omega) f.r0 (HWB.out x hx) f.r1 f.c)
        generalize (((dries b).take j).all fun d => b.weighs.any fun x => decide (r < dLo d x)) = su at *
        generalize (((dries b).take j).any fun d => b.weighs.any fun x => decide (r < dHi d x)) = my at *
        have x5 := HBXR.out.cell 5
        simp at x5
        have xl := HBXR.out.lt
        cases su <;> cases my
        · show _
          go_wp2_with fail
          rw [HWD.out]
          refine (f90_any 93 _ (enters_of Tryd.func93 (by kernel_rfl) rfl) (fun x => decide (r < dHi d x)) b.weighs _ _ (HW.out.ext (HER.out.trans (HED.out.trans (Ext.refl _)))) (HP2.out _ (Ext.refl _))).mono ?_
          rintro e w4 ⟨rfl, hE4⟩
          have HE4 := Lib.hid hE4; clear hE4
          go_wp2
          go_roundg (nl - (j + 1))
          case measure => omega
          case rel => exact ⟨j + 1, by omega, by omega, by simp, by rw [HSN.out]; simp, by rw [HDN.out]; simp, EX.out.trans (HED.out.trans HE4.out)⟩
        · rw [show (false && b.weighs.any fun x => decide (r < dLo d x)) = false from rfl] at HSN
          go_wp2
          go_roundg (nl - (j + 1))
          case measure => omega
          case rel => exact ⟨j + 1, by omega, by omega, by simp, by rw [HSN.out], by rw [HDN.out]; simp, (EX.out.alloc _)⟩
        · show _
          go_wp2_with fail
          rw [HWD.out]
          refine (f90_any 91 _ (enters_of Tryd.func91 (by kernel_rfl) rfl) (fun x => decide (r < dLo d x)) b.weighs _ _ (HW.out.ext (HER.out.trans (HED.out.trans (Ext.refl _)))) (HP1.out _ (Ext.refl _))).mono ?_
          rintro e w4 ⟨rfl, hE4⟩
          have HE4 := Lib.hid hE4; clear hE4
          have HB4 := Lib.hid (HBXR.out.ext (HED.out.trans HE4.out))
          have y5 := HB4.out.cell 5
          have yl := HB4.out.lt
          simp at y5
          clear x5 xl
          go_wp2_with fail
          show _
          refine (f90_any 93 _ (enters_of Tryd.func93 (by kernel_rfl) rfl) (fun x => decide (r < dHi d x)) b.weighs _ _ (HW.out.ext (HER.out.trans (HED.out.trans HE4.out))) (HP2.out _ HE4.out)).mono ?_
          rintro e w5 ⟨rfl, hE5⟩
          have HE5 := Lib.hid (HE4.out.trans hE5); clear hE5
          go_wp2
          go_roundg (nl - (j + 1))
          case measure => omega
          case rel => exact ⟨j + 1, by omega, by omega, by simp, by rw [HSN.out]; simp, by rw [HDN.out]; simp, EX.out.trans (HED.out.trans HE5.out)⟩
        · show _
          go_wp2_with fail
          rw [HWD.out]
          refine (f90_any 91 _ (enters_of Tryd.func91 (by kernel_rfl) rfl) (fun x => decide (r < dLo d x)) b.weighs _ _ (HW.out.ext (HER.out.trans (HED.out.trans (Ext.refl _)))) (HP1.out _ (Ext.refl _))).mono ?_
          rintro e w4 ⟨rfl, hE4⟩
          have HE4 := Lib.hid hE4; clear hE4
          go_wp2
          go_roundg (nl - (j + 1))
          case measure => omega
          case rel => exact ⟨j + 1, by omega, by omega, by simp, by rw [HSN.out]; simp, by rw [HDN.out]; simp, EX.out.trans (HED.out.trans HE4.out)⟩
      · have HSU := Lib.hid (show surelyL b r = (((dries b).take j).all fun d => b.weighs.any fun x => decide (r < dLo d x)) by unfold surelyL; rw [List.take_of_length_le (by have := hnl.out; omega)])
        have HMY := Lib.hid (show mayL b r = (((dries b).take j).any fun d => b.weighs.any fun x => decide (r < dHi d x)) by unfold mayL; rw [List.take_of_length_le (by have := hnl.out; omega)])
        generalize (((dries b).take j).all fun d => b.weighs.any fun x => decide (r < dLo d x)) = su at *
        generalize (((dries b).take j).any fun d => b.weighs.any fun x => decide (r < dHi d x)) = my at *
        have y0 := HBPR.out.cell 0
        have y1 := HBPR.out.cell 1
        have y2 := HBPR.out.cell 2
        have y3 := HBPR.out.cell 3
        have y4 := HBPR.out.cell 4
        have y5 := HBPR.out.cell 5
        have y6 := HBPR.out.cell 6
        have y7 := HBPR.out.cell 7
        simp at y0 y1 y2 y3 y4 y5 y6 y7
        go_wp2_with fail
        refine (HMA.out wr (HS.out.ext ((Ext.al _ _).trans EX.out))).mono ?_
        rintro e w5 ⟨m, rfl, hmi, hE5⟩
        have HE5 := Lib.hid (HER.out.trans hE5); clear hE5
        have HKS := Lib.hid (show kindS b = kindsOf (truthsL (sp.zip [0, 0, 0, 0, 0])) by unfold kindS; rw [HSP.out])
        generalize kindsOf (truthsL (sp.zip [0, 0, 0, 0, 0])) = s at *
        have lk := hmi.look (k := 1) (by decide) (by decide)
        have ln := hmi.len 3
        have hnm := S4.num_le s
        clear hmi
        clear y0 y1 y2 y3 y4 y5 y6 y7
        cases su with
        | true =>
          go_wp2
          refine bodyPost_ret (v := .tuple #[.int .u8 2, .int .i64 0]) (by simp [results, Tryd.results43, go_sem]) rfl ?_
          exact ⟨by rw [HK.out, HZ.out, HSU.out, HMY.out, HKS.out]; unfold asideL; simp [], HE5.out⟩
        | false =>
          cases hh : s.has 1 with
          | false =>
            rw [hh] at lk
            go_wp2
            refine bodyPost_ret (v := .tuple #[.int .u8 2, .int .i64 0]) (by simp [results, Tryd.results43, go_sem]) rfl ?_
            exact ⟨by rw [HK.out, HZ.out, HSU.out, HMY.out, HKS.out]; unfold asideL; simp [hh], HE5.out⟩
          | true =>
            rw [hh] at lk
            cases my with
            | true =>
              go_wp2
              refine bodyPost_ret (v := .tuple #[.int .u8 1, .int .i64 0]) (by simp [results, Tryd.results43, go_sem]) rfl ?_
              exact ⟨by rw [HK.out, HZ.out, HSU.out, HMY.out, HKS.out]; unfold asideL; simp [hh], HE5.out⟩
            | false =>
              by_cases hn1 : 1 < s.num
              · have hn2 : (1 : Int) < (s.num : Int) := by omega
                go_wp2
                refine bodyPost_ret (v := .tuple #[.int .u8 1, .int .i64 0]) (by simp [results, Tryd.results43, go_sem]) rfl ?_
                exact ⟨by rw [HK.out, HZ.out, HSU.out, HMY.out, HKS.out]; unfold asideL; simp [hh, hn1], HE5.out⟩
              · have hn2 : ¬ ((1 : Int) < (s.num : Int)) := by omega
                go_wp2
                refine bodyPost_ret (v := .tuple #[.int .u8 0, .int .i64 0]) (by simp [results, Tryd.results43, go_sem]) rfl ?_
                exact ⟨by rw [HK.out, HZ.out, HSU.out, HMY.out, HKS.out]; unfold asideL; simp [hh, hn1], HE5.out⟩
  · have HK := Lib.hid (show asideB b r = 0 by unfold asideB; rw [if_neg hz9])
    obtain rfl := hpz hz9
    generalize hE9 : askE b (inB 0 200 r) 35 = E at hz9
    have HE9 := Lib.hid hE9; clear hE9 hpv hpz
    have HE1 := Lib.hid (HEW.out.alloc (.cells #[.int .i64 0, .int .i64 0, .int .i64 0, .int .i64 0, .slice none 0 0, .slice none 0 0, .slice none 0 0, .slice none 0 0] 147))
    go_wp2
    refine bodyPost_ret (v := .tuple #[.int .u8 0, .int .i64 E]) (by simp [results, Tryd.results43, go_sem]) rfl ?_
    exact ⟨by rw [HK.out, HE9.out], HE1.out⟩
end Go.Proofs.YtkpengeaolcjhaaDoor
/- The plain law: Aside. -/
namespace Go.Proofs.YtkpengeaolcjhaaDoor
open Go.RowKit Go.Shelf
set_option linter.unusedSimpArgs false

theorem hitsR_eq {b : Bale} (hb : Bds b) {d : Int} {x : Weigh} (hd : d ∈ dries b) (hx : x ∈ b.weighs) : hitsR d x = ⟨dLo d x, dHi d x⟩ := by
  have hf := bds_fit hb hd hx
  have h1 := dLo_spec hf
  have h2 := dHi_spec hf
  have h3 := hb.w x hx
  unfold hitsR
  rw [hitsTo_full hf]
  simp only [Span.mk.injEq]
  omega
theorem any_congr' {α : Type} {l : List α} {p q : α → Bool} (h : ∀ x ∈ l, p x = q x) : l.any p = l.any q := by
  induction l with
  | nil => rfl
  | cons a l ih => rw [List.any_cons, List.any_cons, h a (by simp), ih (fun x hx => h x (by simp [hx]))]
theorem all_congr' {α : Type} {l : List α} {p q : α → Bool} (h : ∀ x ∈ l, p x = q x) : l.all p = l.all q := by
  induction l with
  | nil => rfl
  | cons a l ih => rw [List.all_cons, List.all_cons, h a (by simp), ih (fun x hx => h x (by simp [hx]))]
theorem surely_eq {b : Bale} (hb : Bds b) (r : Int) : surelyR b r = surelyL b r := by
  unfold surelyR surelyL
  refine all_congr' fun d hd => ?_
  unfold wetR
  refine any_congr' fun x hx => ?_
  rw [hitsR_eq hb hd hx]
theorem never_eq {b : Bale} (hb : Bds b) (r : Int) : neverR b r = !mayL b r := by
  unfold neverR mayL
  have h1 : ∀ {α : Type} (l : List α) (p q : α → Bool), (∀ x ∈ l, p x = !q x) → l.all p = !l.any q := by
    intro α l p q h
    induction l with
    | nil => rfl
    | cons a l ih => rw [List.all_cons, List.any_cons, h a (by simp), ih (fun x hx => h x (by simp [hx]))]; simp
  refine h1 _ _ _ fun d hd => ?_
  unfold dryR
  refine h1 _ _ _ fun x hx => ?_
  rw [hitsR_eq hb hd hx]
  by_cases h : dHi d x ≤ r
  · simp [h]
    try omega
  · simp [h]
    try omega
theorem has1_num (s : S4) (h : s.has 1 = true) : 1 ≤ s.num := by
  obtain ⟨a, b, c, d⟩ := s
  cases a <;> simp [S4.has, S4.num] at h ⊢
  omega
theorem aside_eq (b : Bale) (r : Int) : asideR b r = asideB b r := by
  unfold asideR asideB
  split
  · rename_i hz
    obtain ⟨h1, h2, h3⟩ := askE_zero hz (by decide)
    have hb := valid_bds h1
    rw [surely_eq hb, never_eq hb]
    unfold asideOf asideL kindK
    have hn := has1_num (kindS b)
    cases hh : (kindS b).has 1
    · simp
    · have := hn hh
      by_cases h1 : (kindS b).num = 1
      · cases surelyL b r <;> cases mayL b r <;> simp [h1]
      · have h2 : 1 < (kindS b).num := by omega
        cases surelyL b r <;> cases mayL b r <;> simp [h1, h2]
  · rfl
end Go.Proofs.YtkpengeaolcjhaaDoor
