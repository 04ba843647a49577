/- The laws' fitted: which bales of a valid mill surely are plain. -/
import Derived.Test.YtkpengeaolcjhaaGreatDoorPkMlBestCardX
import Derived.Test.YtkpengeaolcjhaaGreatDoorPkMlBestCardW
namespace Go.Proofs.YtkpengeaolcjhaaGreatDoor
open Go.RowKit Go.Shelf Go.Lib
set_option maxRecDepth 100000
set_option linter.unusedSimpArgs false

theorem ask_two {b : Bale} (hv : valid b = true) : askE b (inB 1 4 1) 32 = 0 ∨ askE b (inB 1 4 1) 32 = 8 := by
  unfold askE
  rw [hv, if_pos rfl, if_pos (by decide)]
  split
  · exact .inl rfl
  · exact .inr rfl
set_option maxHeartbeats 4000000 in
theorem fitted_any (lots size : Int) (l : List Rc) (sv : Value) (w : World) (hT : TabM w) (hs : MlC w sv l) (hc : checkM (mOf lots size l) = true) :
    Calls Tryz.prog 24 #[valM lots size sv] w fun e w' => (∃ v, e = .returned (.tuple #[v, .bool true]) ∧ Own encBo 4 1 w' w.heap.size v (fitL (mOf lots size l))) ∧ Ext w w' := by
  have HS := Lib.hid hs; have HTT := Lib.hid hT
  obtain ⟨A, n, c, rfl, hn, hlc, hcm⟩ := hs.1.form
  have HF := Lib.hid (show fitL (mOf lots size l) = l.map (fun r => fitB r.c) by unfold fitL; rw [List.map_map]; rfl)
  rw [HF.out]
  have HL := Lib.hid (show l.length = n from hn.out.symm)
  have HV := Lib.hid (show ∀ x ∈ l, valid x.c.b = true from fun x hx => (mok_of hc).v x.c (by simp; exact ⟨x, hx, rfl⟩))
  have hn7 : n ≤ 7 := by have h := (mok_of hc).n7; simp at h; have := HL.out; omega
  clear hs hn HF hT hc
  go_enter Tryz.func24, Tryz.ntmps24
  go_wp2
  go_loopg [4, 12] n (fun gg s3 s11 wr => ∃ kk : Nat, kk ≤ n ∧ n - kk ≤ gg ∧ s11 = .int .i64 (kk : Int) ∧ Aside (Own encBo 4 1 wr w.heap.size s3 ((l.take kk).map (fun r => fitB r.c))) ∧ Aside (Ext w wr))
  case atStart => exact ⟨0, by omega, by omega, by simp, Own.nil _ _, Ext.al _ _⟩
  case round =>
    obtain ⟨kk, hkk, hgg, rfl, OW, HW⟩ := hrel
    by_cases hlt : kk < n
    · have hltz : (kk : Int) < (n : Int) := by omega
      obtain ⟨b, off, x, rfl, hx, hb, hcell⟩ := HS.out.1.at_ hlt
      obtain ⟨c0, c1, c2, c3, c4, c5, c6, c7⟩ := SlC.cells hcell HW.out
      have HX := Lib.hid (HS.out.2 x (List.mem_of_getElem? hx))
      have HVX := Lib.hid (ask_two (HV.out x (List.mem_of_getElem? hx)))
      have HT := Lib.hid (show (l.take (kk + 1)).map (fun r => fitB r.c) = (l.take kk).map (fun r => fitB r.c) ++ [fitB x.c] by rw [List.take_add_one, hx, List.map_append]; rfl)
      have HLN := Lib.hid (show ((l.take kk).map (fun r => fitB r.c)).length = kk by have := HL.out; rw [List.length_map, List.length_take]; omega)
      generalize (l.take kk).map (fun r => fitB r.c) = L0 at *
      have HWE := Lib.hid (HW.out.trans (Ext.al wr (.cells #[.int .i64 x.c.b.id, .int .i64 x.c.b.layers, .int .i64 x.c.b.dry.lo, .int .i64 x.c.b.dry.hi, .slice x.da x.dn x.dc, .slice x.wa x.wn x.wc, .int .i64 x.c.len, .int .i64 x.c.str] 63)))
      have OW2 := Lib.hid (OW.out.alloc (.cells #[.int .i64 x.c.b.id, .int .i64 x.c.b.layers, .int .i64 x.c.b.dry.lo, .int .i64 x.c.b.dry.hi, .slice x.da x.dn x.dc, .slice x.wa x.wn x.wc, .int .i64 x.c.len, .int .i64 x.c.str] 63))
      clear hcell hx
      go_wp2_with fail
      refine (kindC_any x.c.b 1 _ _ _ (HTT.out.1.ext HWE.out) (HX.out.1.ext HWE.out) (HX.out.2.ext HWE.out)).mono ?_
      rintro e w2 ⟨rfl, hE⟩
      have HE2 := Lib.hid (HWE.out.trans hE)
      have OW3 := Lib.hid (OW2.out.ext hE)
      have HFB := Lib.hid (show fitB x.c = (decide (askE x.c.b (inB 1 4 1) 32 = 0) && decide (kindB x.c.b 1 = 2)) from rfl)
      generalize askE x.c.b (inB 1 4 1) 32 = E at *
      generalize kindB x.c.b 1 = K at *
      clear hE c0 c1 c2 c3 c4 c5 c6 c7 OW OW2
      have HBB := Lib.hid (show ((E == 0) && (K == 2)) = fitB x.c by rw [HFB.out]; rfl)
      have HLB := Lib.hid (show L0.length < 100000000000 by have := HLN.out; omega)
      rcases HVX.out with hE0 | hE8
      · subst hE0
        by_cases hK2 : K = 2
        · subst hK2
          have HB1 := Lib.hid (show fitB x.c = true from HFB.out)
          clear HVX
          go_wp2_with (at_builtin; refine wpList_app encBo 46 4 1 _ 1 Tryz.underlying46 info4x rfl (by decide) (by decide) (fun _ => rfl) encBo_one rfl (.tmp 28) (.tmp 35) rfl w.heap.size _ L0 rfl (OW3.out.alloc _) w2.heap.size 1 true rfl (cells1 (by simp [go_sem])) HLB.out (by have := HE2.out.size; simp; omega) ?_)
          intro g cap w' hown hg2 hbel _
          have hlr := HLN.out
          rw [hlr, ← HB1.out, ← HT.out] at hown
          have HO := Lib.hid hown
          have HB := Lib.hid (show Ext w w' from Below.trans (HE2.out.alloc _) hbel)
          clear hown hbel
          go_wp2
          go_roundg (n - (kk + 1))
          case measure => omega
          case rel => exact ⟨kk + 1, by omega, by omega, by simp, by rw [hlr]; exact HO.out, HB.out⟩
        · have hKb : (K == 2) = false := by simpa using hK2
          have HB1 := Lib.hid (show fitB x.c = false by rw [← HBB.out, hKb]; rfl)
          clear HVX
          go_wp2_with (at_builtin; refine wpList_app encBo 46 4 1 _ 1 Tryz.underlying46 info4x rfl (by decide) (by decide) (fun _ => rfl) encBo_one rfl (.tmp 28) (.tmp 35) rfl w.heap.size _ L0 rfl (OW3.out.alloc _) w2.heap.size 1 false rfl (cells1 (by simp [go_sem])) HLB.out (by have := HE2.out.size; simp; omega) ?_)
          intro g cap w' hown hg2 hbel _
          have hlr := HLN.out
          rw [hlr, ← HB1.out, ← HT.out] at hown
          have HO := Lib.hid hown
          have HB := Lib.hid (show Ext w w' from Below.trans (HE2.out.alloc _) hbel)
          clear hown hbel
          go_wp2
          go_roundg (n - (kk + 1))
          case measure => omega
          case rel => exact ⟨kk + 1, by omega, by omega, by simp, by rw [hlr]; exact HO.out, HB.out⟩
      · subst hE8
        have HB1 := Lib.hid (show fitB x.c = false by rw [← HBB.out]; rfl)
        clear HVX
        go_wp2_with (at_builtin; refine wpList_app encBo 46 4 1 _ 1 Tryz.underlying46 info4x rfl (by decide) (by decide) (fun _ => rfl) encBo_one rfl (.tmp 28) (.tmp 35) rfl w.heap.size _ L0 rfl (OW3.out.alloc _) w2.heap.size 1 false rfl (cells1 (by simp [go_sem])) HLB.out (by have := HE2.out.size; simp; omega) ?_)
        intro g cap w' hown hg2 hbel _
        have hlr := HLN.out
        rw [hlr, ← HB1.out, ← HT.out] at hown
        have HO := Lib.hid hown
        have HB := Lib.hid (show Ext w w' from Below.trans (HE2.out.alloc _) hbel)
        clear hown hbel
        go_wp2
        go_roundg (n - (kk + 1))
        case measure => omega
        case rel => exact ⟨kk + 1, by omega, by omega, by simp, by rw [hlr]; exact HO.out, HB.out⟩
    · have HE := Lib.hid (show kk = n by omega)
      go_wp2
      go_ret2
      exact ⟨⟨_, rfl, by have := OW.out; rwa [List.take_of_length_le (by have := HE.out; have := HL.out; omega)] at this⟩, HW.out⟩
end Go.Proofs.YtkpengeaolcjhaaGreatDoor
/- The laws' chosen: an allowed plan by choices, if there is one. -/
namespace Go.Proofs.YtkpengeaolcjhaaGreatDoor
open Go.RowKit Go.Shelf Go.Lib
set_option maxRecDepth 100000
set_option linter.unusedSimpArgs false

theorem nz_lt {lt sz lot k : Nat} (h1 : 1 ≤ lot) (h2 : lot ≤ lt) (hk : k < sz) : (lot - 1) * sz + k < lt * sz := by
  have h := Nat.mul_le_mul_right sz (show lot - 1 + 1 ≤ lt by omega)
  rw [Nat.add_mul, Nat.one_mul] at h
  omega
/-- How chosen ends. -/
def ChsP (m : Mll) (w : World) (e : Ending) (w' : World) : Prop :=
  ((∃ v p, e = .returned (.tuple #[v, .bool true]) ∧ SlI w' v p ∧ okPlan m p = true) ∨ (e = .returned (.tuple #[.slice none 0 0, .bool false]) ∧ plansL m = [])) ∧ Ext w w'
/-- What stands while a plan is chosen. -/
structure ChW (m : Mll) (lt sz bx gp n : Nat) (A : Option Addr) (c : Nat) (w : World) (lot k : Nat) (p : List Int) (W : World) : Prop where
  e : Ext w W
  b : Blk W bx 24 #[.int .i64 (lt : Int), .int .i64 (sz : Int), .slice A n c]
  o : OwB gp n p W
  p : ChP m lt sz lot k p
theorem ChW.ext {m : Mll} {lt sz bx gp n : Nat} {A : Option Addr} {c : Nat} {w : World} {lot k : Nat} {p : List Int} {W W' : World} (h : ChW m lt sz bx gp n A c w lot k p W) (e : Ext W W') : ChW m lt sz bx gp n A c w lot k p W' :=
  ⟨h.e.trans e, h.b.ext e, h.o.ext e, h.p⟩
theorem ChW.set {m : Mll} {lt sz bx gp n : Nat} {A : Option Addr} {c : Nat} {w : World} {lot k i : Nat} {p : List Int} {W : World} (h : ChW m lt sz bx gp n A c w lot k p W) (hl : lot ≤ lt) (h1 : 1 ≤ lot) (hb : bx ≠ gp) (hw : w.heap.size ≤ gp) (hp : p[i]? = some 0) (hf : (fitL m)[i]? = some true) :
    ChW m lt sz bx gp n A c w lot (k + 1) (p.set i (lot : Int)) (W.setCell ⟨gp, i, none⟩ (.int .i64 (lot : Int))) :=
  ⟨h.e.setCell (by dsimp only; exact hw) _, h.b.far (by dsimp only; exact fun e => hb e) _, h.o.set _, h.p.step hl h1 hp hf⟩
set_option maxHeartbeats 8000000 in
theorem chosenM_any (lots size : Int) (l : List Rc) (by' : List Int) (sv fv bv : Value) (w : World) (hs : MlC w sv l) (hc : checkM (mOf lots size l) = true) (hf : SlBo w fv (fitL (mOf lots size l))) (hbs : Sl encU8 1 w bv by') (hbb : ∀ x ∈ by', 0 ≤ x ∧ x ≤ 255) :
    Calls Tryz.prog 27 #[valM lots size sv, fv, bv] w (ChsP (mOf lots size l) w) := by
  have hm := mok_of hc
  obtain ⟨lt, rfl⟩ := lots_nat hc
  obtain ⟨sz, rfl⟩ : ∃ sz : Nat, size = (sz : Int) := ⟨size.toNat, by have h : 2 ≤ size := hm.s2; omega⟩
  have hl1 : 1 ≤ lt := by have h : 1 ≤ (lt : Int) := hm.l1; omega
  have hl3 : lt ≤ 3 := by have h : (lt : Int) ≤ 3 := hm.l3; omega
  have hs2 : 2 ≤ sz := by have h : 2 ≤ (sz : Int) := hm.s2; omega
  have hs4 : sz ≤ 4 := by have h : (sz : Int) ≤ 4 := hm.s4; omega
  have HM := Lib.hid hm
  have HS := Lib.hid hs; have HF := Lib.hid hf; have HBS := Lib.hid hbs; have HBB := Lib.hid hbb
  obtain ⟨A, n, c, rfl, hn, hlc, hcm⟩ := hs.1.form
  obtain ⟨Af, nf, cf, rfl, hnf, hlf, hcf⟩ := hf.form
  have HL := Lib.hid (show l.length = n from hn.out.symm)
  have hnf' : nf = n := by have h1 := hnf.out; simp [fitL] at h1; have := HL.out; omega
  subst hnf'
  have hn7 : nf ≤ 7 := by have h := hm.n7; simp at h; have := HL.out; omega
  have HFL := Lib.hid (show (fitL (mOf lt sz l)).length = nf from hnf.out.symm)
  have HCL := Lib.hid (show (mOf lt sz l).cots.length = nf by simp [HL.out])
  have HPZ := Lib.hid (ChP.start (mOf lt sz l) lt sz)
  have rm := fun W => run_makeIM (n := nf) (by omega) W
  clear hs hf hbs hbb hn hnf hm hc
  go_enter Tryz.func27, Tryz.ntmps27
  go_wp2
  obtain ⟨w2, hw2⟩ : ∃ w2, w2 = (w.alloc (.cells #[.int .i64 (lt : Int), .int .i64 (sz : Int), .slice A nf c] 24)).alloc (.cells (Array.replicate nf (Value.int .i64 0)) 3) := ⟨_, rfl⟩
  rw [← hw2]
  have C2 := Lib.hid (show ChW (mOf lt sz l) lt sz w.heap.size (w.heap.size + 1) nf A c w 1 0 (List.replicate nf 0) w2 from ⟨hw2 ▸ (Ext.al _ _).alloc _, hw2 ▸ (Blk.new _ _ _).alloc _, (by
    have h := OwB.make (n := nf) (by unfold maxLen; omega) (w.alloc (.cells #[.int .i64 (lt : Int), .int .i64 (sz : Int), .slice A nf c] 24))
    rw [hw2]
    simpa using h), (by have h := HPZ.out; rwa [HCL.out] at h)⟩)
  clear hw2 rm HPZ
  go_loopg [9] (lt + 2) (fun gg s9 wr => ∃ lot : Nat, 1 ≤ lot ∧ lot ≤ lt + 1 ∧ lt + 1 - lot < gg ∧ s9 = .int .i64 (lot : Int) ∧ Aside (∃ p, ChW (mOf lt sz l) lt sz w.heap.size (w.heap.size + 1) nf A c w lot 0 p wr))
  case atStart => exact ⟨1, by omega, by omega, by omega, by simp, _, C2.out⟩
  case round =>
    obtain ⟨lot, hlo1, hlo2, hgg, rfl, p0, hcw⟩ := hrel
    have CW := Lib.hid hcw
    clear C2 hcw
    obtain ⟨b0, b1, b2, bf, bl⟩ := CW.out.b.c3
    by_cases hll : lot ≤ lt
    · have hllz : (lot : Int) ≤ (lt : Int) := by omega
      go_wp2
      clear b0 b1 b2 bf bl
      go_loopg [26] (sz + 1) (fun gg s26 wr => ∃ k : Nat, k ≤ sz ∧ sz - k < gg ∧ s26 = .int .i64 (k : Int) ∧ Aside (∃ p, ChW (mOf lt sz l) lt sz w.heap.size (w.heap.size + 1) nf A c w lot k p wr))
      case atStart => exact ⟨0, by omega, by omega, by simp, p0, CW.out⟩
      case round =>
        obtain ⟨k, hk, hgk, rfl, p, hcw⟩ := hrel
        have CK := Lib.hid hcw
        clear CW hcw
        by_cases hks : k < sz
        · have hksz : (k : Int) < (sz : Int) := by omega
          have HPL := Lib.hid (show p.length = nf by have := CK.out.p.len; rw [HCL.out] at this; exact this)
          go_wp2
          rename World => wO
          go_loopg [11, 31] nf (fun gg s11 s31 wr => ∃ i : Nat, i ≤ nf ∧ nf - i ≤ gg ∧ s31 = .int .i64 (i : Int) ∧ Aside (Own encI 3 1 wr wO.heap.size s11 (leftTo p (fitL (mOf lt sz l)) i)) ∧ Aside (Ext wO wr))
          case atStart => exact ⟨0, by omega, by omega, by simp, Own.nil _ _, Ext.refl _⟩
          case round =>
            obtain ⟨i, hi, hgi, rfl, OI, EI⟩ := hrel
            by_cases hin : i < nf
            · have hinz : (i : Int) < (nf : Int) := by omega
              have hiz : (0 : Int) ≤ (i : Int) := by omega
              obtain ⟨bq, offq, b, rfl, hb, -, hcb⟩ := HF.out.at_ hin
              obtain ⟨a, ha⟩ : ∃ a, p[i]? = some a := ⟨_, List.getElem?_eq_getElem (by have := HPL.out; omega)⟩
              have HSU := Lib.hid (leftTo_succ ha hb)
              have HLB := Lib.hid (show (leftTo p (fitL (mOf lt sz l)) i).length < 100000000000 by have := leftTo_len p (fitL (mOf lt sz l)) i; omega)
              have c0 := SlBo.cell hcb (CK.out.e.trans EI.out)
              obtain ⟨z0, z1, z2⟩ := (CK.out.o.ext EI.out).cell ha
              obtain ⟨L0, hL0⟩ : ∃ L0, leftTo p (fitL (mOf lt sz l)) i = L0 := ⟨_, rfl⟩
              rw [hL0] at OI HSU HLB
              clear hb hcb ha hL0
              cases b with
              | false =>
                have HN := Lib.hid (show leftTo p (fitL (mOf lt sz l)) (i + 1) = L0 by rw [HSU.out]; simp)
                go_wp2
                go_roundg (nf - (i + 1))
                case measure => omega
                case rel => exact ⟨i + 1, by omega, by omega, by simp, by rw [HN.out]; exact OI.out, EI.out⟩
              | true =>
                by_cases ha0 : a = 0
                · subst ha0
                  have HN := Lib.hid (show leftTo p (fitL (mOf lt sz l)) (i + 1) = L0 ++ [(i : Int)] by rw [HSU.out]; simp)
                  go_wp2_with (at_builtin; refine wpList_app encI 36 3 1 _ 8 Tryz.underlying36 info3x rfl (by decide) (by decide) (fun _ => rfl) encI_one rfl (.tmp 44) (.tmp 46) rfl wO.heap.size _ L0 rfl (OI.out.alloc _) wr.heap.size 1 (i : Int) rfl (cells1 (by simp [go_sem])) HLB.out (by have := EI.out.size; simp; omega) ?_)
                  intro g cap w' hown hg2 hbel _
                  rw [← HN.out] at hown
                  have HO := Lib.hid hown
                  have HBE := Lib.hid (show Ext wO w' from Below.trans (EI.out.alloc _) hbel)
                  clear hown hbel
                  go_wp2
                  go_roundg (nf - (i + 1))
                  case measure => omega
                  case rel => exact ⟨i + 1, by omega, by omega, by simp, HO.out, HBE.out⟩
                · have hab : (a == 0) = false := by simpa using ha0
                  have HN := Lib.hid (show leftTo p (fitL (mOf lt sz l)) (i + 1) = L0 by rw [HSU.out]; simp [ha0])
                  go_wp2
                  go_roundg (nf - (i + 1))
                  case measure => omega
                  case rel => exact ⟨i + 1, by omega, by omega, by simp, by rw [HN.out]; exact OI.out, EI.out⟩
            · obtain rfl : i = nf := by omega
              have CI := Lib.hid (CK.out.ext EI.out)
              obtain ⟨A3, q, c3, rfl, hq, hlc3, hcm3⟩ := (show SlI wr _ (leftTo p (fitL (mOf lt sz l)) i) from OI.out.sl (fun _ => rfl)).form
              have HLS := Lib.hid (show SlI wr (.slice A3 q c3) (leftTo p (fitL (mOf lt sz l)) i) from OI.out.sl (fun _ => rfl))
              have HQ := Lib.hid (show (leftTo p (fitL (mOf lt sz l)) i).length = q from hq.out.symm)
              have hq7 : q ≤ 7 := by have := leftTo_len p (fitL (mOf lt sz l)) i; have := HQ.out; omega
              clear hq OI
              by_cases hq0 : q = 0
              · subst hq0
                have HNO := Lib.hid (show plansL (mOf lt sz l) = [] from few_none HM.out CI.out.p.len (leftTo_nil HPL.out (List.eq_nil_of_length_eq_zero HQ.out)) (by
                  rw [CI.out.p.nz hlo1 hll hl3]
                  have := nz_lt (sz := sz) (k := k) hlo1 hll hks
                  show (((lot - 1) * sz + k : Nat) : Int) < (lt : Int) * (sz : Int)
                  rw [← Int.natCast_mul]
                  omega))
                go_wp2
                go_ret2
                exact ⟨.inr ⟨rfl, HNO.out⟩, CI.out.e⟩
              · have hqb : ((q : Int) == 0) = false := by simp; omega
                have hqz : (q : Int) ≠ 0 := by omega
                have hmul : IntKind.i64.wrap ((lot : Int) * 4) = (lot : Int) * 4 := by rw [IntKind.wrap_i64]; omega
                have hadd : IntKind.i64.wrap ((lot : Int) * 4 + (k : Int)) = ((lot * 4 + k : Nat) : Int) := by rw [show (lot : Int) * 4 + (k : Int) = ((lot * 4 + k : Nat) : Int) by omega]; exact wrap_nat (by omega)
                go_wp2_with fail
                refine (choice_any by' _ (lot * 4 + k) _ (by omega) (HBS.out.ext CI.out.e) HBB.out).mono ?_
                rintro e w5 ⟨⟨cc, hcc, rfl⟩, hE⟩
                have C5 := Lib.hid (CI.out.ext hE)
                obtain ⟨t, ht⟩ : ∃ t, cc % q = t := ⟨_, rfl⟩
                have htq : t < q := by rw [← ht]; exact Nat.mod_lt _ (by omega)
                have htm : (cc : Int).tmod (q : Int) = (t : Int) := by rw [Int.tmod_eq_emod_of_nonneg (by omega), ← ht]; omega
                have htz : (t : Int) < (q : Int) := by omega
                have ht0 : (0 : Int) ≤ (t : Int) := by omega
                obtain ⟨b3, off3, x, rfl, hx, -, hcx⟩ := (HLS.out.ext hE).at_ htq
                obtain ⟨ii, rfl, hii, hpi, hfi⟩ := leftTo_mem HPL.out HFL.out (List.mem_of_getElem? hx)
                have c0 := SlI.cell hcx (Ext.refl _)
                obtain ⟨z0, z1, z2⟩ := C5.out.o.cell hpi
                have hiiz : (ii : Int) < (i : Int) := by omega
                have hii0 : (0 : Int) ≤ (ii : Int) := by omega
                have C6 := Lib.hid (C5.out.set (i := ii) hll hlo1 (by omega) (by omega) hpi hfi)
                clear hE hx hcx ht hpi hfi
                go_wp2
                go_roundg (sz - k)
                case measure => omega
                case rel => exact ⟨k + 1, by omega, by omega, by simp, _, C6.out⟩
        · obtain rfl : k = sz := by omega
          have CN := Lib.hid (show ChW (mOf lt k l) lt k w.heap.size (w.heap.size + 1) nf A c w (lot + 1) 0 p wr from ⟨CK.out.e, CK.out.b, CK.out.o, CK.out.p.next⟩)
          go_wp2
          go_roundg (lt + 1 - lot)
          case measure => omega
          case rel => exact ⟨lot + 1, by omega, by omega, by omega, by simp, p, CN.out⟩
    · obtain rfl : lot = lt + 1 := by omega
      have HOK := Lib.hid (show okPlan (mOf lt sz l) p0 = true from CW.out.p.done rfl rfl)
      have HPL := Lib.hid (show p0.length = nf by have := CW.out.p.len; rw [HCL.out] at this; exact this)
      have HSL := Lib.hid (show SlI wr (.slice (some ⟨w.heap.size + 1, 0, none⟩) nf nf) p0 by have h := CW.out.o.sl; rwa [HPL.out] at h)
      go_wp2
      go_ret2
      exact ⟨.inl ⟨_, p0, rfl, HSL.out, HOK.out⟩, CW.out.e⟩
end Go.Proofs.YtkpengeaolcjhaaGreatDoor
