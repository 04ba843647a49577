/- The reference's sides: whether a bale was surely, or never, too damp at a weighing. -/
import Derived.Test.YtcoiahjehlplfaaDoorRKindB
import Derived.Test.YtcoiahjehlplfaaDoorWetLaw
namespace Go.Proofs.YtcoiahjehlplfaaDoor
open Go.RowKit Go.Shelf
set_option maxRecDepth 100000
set_option linter.unusedSimpArgs false

def hitsR (d : Int) (x : Weigh) : Span := hitsTo d x ⟨201, -1⟩ (x.damp.hi - x.damp.lo + 1).toNat
def wetR (damp : Int) (ws : List Weigh) (d : Int) : Bool := ws.any fun x => decide (damp < (hitsR d x).lo)
def dryR (damp : Int) (ws : List Weigh) (d : Int) : Bool := ws.all fun x => decide ((hitsR d x).hi ≤ damp)
def surelyR (b : Bale) (damp : Int) : Bool := (dries b).all (wetR damp b.weighs)
def neverR (b : Bale) (damp : Int) : Bool := (dries b).all (dryR damp b.weighs)
theorem anyx_snoc {α : Type} (p : α → Bool) (l : List α) (k : Nat) (x : α) (h : l[k]? = some x) : (l.take (k + 1)).any p = ((l.take k).any p || p x) := by
  rw [List.take_add_one, h]; simp
theorem allx_snoc {α : Type} (p : α → Bool) (l : List α) (k : Nat) (x : α) (h : l[k]? = some x) : (l.take (k + 1)).all p = ((l.take k).all p && p x) := by
  rw [List.take_add_one, h]; simp

set_option maxHeartbeats 4000000 in
theorem sides_any (b : Bale) (damp : Int) (dv wv : Value) (w : World) (hv : valid b = true) (hd : SlD w dv b.draws) (hw : SlW w wv b.weighs) :
    Calls Tryd.prog 72 #[valB b dv wv, .int .i64 damp] w fun e w' => e = .returned (.tuple #[.bool (surelyR b damp), .bool (neverR b damp)]) ∧ Ext w w' := by
  have HB5 := Lib.hid (valid_bds hv)
  have HD := Lib.hid hd
  have HW := Lib.hid hw
  obtain ⟨A, n, cp, rfl, hn, hlc, hcm⟩ := hd.form
  obtain ⟨A2, n2, cp2, rfl, hn2, hlc2, hcm2⟩ := hw.form
  clear hd hw hv
  go_enter Tryd.func72, Tryd.ntmps72
  go_wp2_with fail
  refine (dries_any b _ _ _ (HD.out.ext (Ext.al _ _)) (HW.out.ext (Ext.al _ _)) HB5.out.lo HB5.out.lh HB5.out.hi (fun x hx => by have := HB5.out.w x hx; omega)).mono ?_
  rintro e w1 ⟨v, rfl, hl, hE⟩
  obtain ⟨Al, nl, cl, rfl, hnl, hlc', hlm⟩ := hl.form
  have HLL := Lib.hid hl
  have HBX := Lib.hid ((Blk.at_ (t := 27) (cs := #[.int .i64 b.id, .int .i64 b.layers, .int .i64 b.dry.lo, .int .i64 b.dry.hi, .slice A n cp, .slice A2 n2 cp2]) (w := w) (g := w.heap.size) rfl).ext hE)
  have HE1 := Lib.hid ((Ext.al w _).trans hE)
  have HLB := Lib.hid (show ∀ d ∈ dries b, 0 ≤ d ∧ d ≤ 1000000 from fun d hd => by have := dries_bd hd; have := HB5.out.lo; have := HB5.out.hi; omega)
  clear hl hE
  go_wp2
  go_loopg [6, 7, 9, 10, 11, 13, 14, 15, 16, 20, 27] nl (fun gg s6 s7 _ _ _ _ _ _ _ s20 _ wr => ∃ j : Nat, j ≤ nl ∧ nl - j ≤ gg ∧ s20 = .int .i64 j ∧ s6 = .bool (((dries b).take j).all (wetR damp b.weighs)) ∧ s7 = .bool (((dries b).take j).all (dryR damp b.weighs)) ∧ Aside (Ext w1 wr))
  case atStart => exact ⟨0, by omega, by omega, rfl, rfl, rfl, Ext.refl _⟩
  case round =>
    obtain ⟨j, hj, hgj, rfl, rfl, rfl, EX⟩ := hrel
    have HBW := Lib.hid (HBX.out.ext EX.out)
    have x5 := HBW.out.cell 5
    simp at x5
    by_cases hjn : j < nl
    · have hjz : (j : Int) < (nl : Int) := by omega
      obtain ⟨bb, off, d, rfl, hd, hbb, hcell⟩ := HLL.out.at_ hjn
      have c0 := Sl.int hcell _ EX.out
      have HSN := Lib.hid (allx_snoc (wetR damp b.weighs) _ _ _ hd)
      have HDN := Lib.hid (allx_snoc (dryR damp b.weighs) _ _ _ hd)
      have HDB := Lib.hid (HLB.out d (List.mem_of_getElem? hd))
      clear hd hcell
      generalize ((dries b).take j).all (wetR damp b.weighs) = su at *
      generalize ((dries b).take j).all (dryR damp b.weighs) = ne at *
      go_wp2
      go_loopg [10, 11, 13, 14, 15, 16, 27] n2 (fun gg s10 s11 _ _ _ _ s27 wr => ∃ k : Nat, k ≤ n2 ∧ n2 - k ≤ gg ∧ s27 = .int .i64 k ∧ s10 = .bool ((b.weighs.take k).any fun x => decide (damp < (hitsR d x).lo)) ∧ s11 = .bool ((b.weighs.take k).all fun x => decide ((hitsR d x).hi ≤ damp)) ∧ Aside (Ext w1 wr))
      case atStart => exact ⟨0, by omega, by omega, rfl, rfl, rfl, EX.out⟩
      case round =>
        obtain ⟨k, hk, hgk, rfl, rfl, rfl, EX2⟩ := hrel
        clear c0 x5
        by_cases hkn : k < n2
        · have hkz : (k : Int) < (n2 : Int) := by omega
          obtain ⟨bw, ow, x, rfl, hx, hbw, hxc⟩ := HW.out.at_ hkn
          obtain ⟨c0, c1, c2, c3⟩ := SlW.cells hxc (HE1.out.trans EX2.out)
          have HAN := Lib.hid (anyx_snoc (fun x => decide (damp < (hitsR d x).lo)) _ _ _ hx)
          have HNN := Lib.hid (allx_snoc (fun x => decide ((hitsR d x).hi ≤ damp)) _ _ _ hx)
          have hxb := HB5.out.w x (List.mem_of_getElem? hx)
          have hq0 : 0 ≤ x.damp.lo := by omega
          have hq1 : x.damp.lo ≤ x.damp.hi := by omega
          have hq2 : x.damp.hi ≤ 200 := by omega
          clear hx hxc hxb
          generalize ((b.weighs.take k).any fun x => decide (damp < (hitsR d x).lo)) = wt at *
          generalize ((b.weighs.take k).all fun x => decide ((hitsR d x).hi ≤ damp)) = dr at *
          generalize hNN : (x.damp.hi - x.damp.lo + 1).toNat = N at *
          have hN : (N : Int) = x.damp.hi - x.damp.lo + 1 := by omega
          obtain ⟨wo, hwo⟩ : ∃ wo : World, wo = wr := ⟨_, rfl⟩
          subst hwo
          go_wp2
          go_loopg [14, 15, 16] N (fun gg s14 s15 s16 wr => ∃ (q : Nat) (lo hi : Int), q ≤ N ∧ N - q ≤ gg ∧ s16 = .int .i64 (x.damp.lo + (q : Int)) ∧ s14 = .int .i64 lo ∧ s15 = .int .i64 hi ∧ Aside (hitsTo d x ⟨201, -1⟩ q = ⟨lo, hi⟩) ∧ Aside (Blk wr wo.heap.size 65 #[.int .i64 x.number, .int .i64 x.pounds, .int .i64 x.damp.lo, .int .i64 x.damp.hi]) ∧ Aside (Ext w1 wr))
          case atStart => exact ⟨0, 201, -1, by omega, by omega, by simp, rfl, rfl, rfl, Blk.at_ rfl, EX2.out.alloc _⟩
          case round =>
            clear c0 c1 c2 c3
            obtain ⟨q, lo, hi, hq, hgq, rfl, rfl, rfl, FQ, BZ, EX3⟩ := hrel
            have z3 := BZ.out.cell 3
            have zl := BZ.out.lt
            simp at z3
            by_cases hqn : q < N
            · have hle : x.damp.lo + (q : Int) ≤ x.damp.hi := by omega
              have m1 := fun W (h : Ext wr W) => (show W.cell? ⟨wo.heap.size, 1, none⟩ = some (.int .i64 x.pounds) from (BZ.out.ext h).cell 1)
              go_wp2
              refine wp_region_tame (fun W => Ext wr W) (fun W W' => Ext W W') (by kernel_rfl) 77 rfl (by decide +kernel) (Ext.refl _).drew ?_
              repeat (apply tame_q rfl; (intro ρ W hC hr hD; (obtain ⟨hrc, hrg, hrf, hrs⟩ := hr); (simp [go_sem] at hD); go_simp; first | exact ⟨⟨hC, Ext.refl _⟩, rfl⟩ | exact ⟨⟨hC, RS.refl _⟩, rfl⟩ | exact rfl); simp only [List.nil_append, List.cons_append])
              apply tame_q rfl
              · intro ρ W hC hr hD
                obtain ⟨hrc, hrg, hrf, hrs⟩ := hr
                simp [go_sem] at hD
                go_simp
                refine (f64_any d (x.damp.lo + (q : Int)) _ HDB.out.1 HDB.out.2 (by omega) (by omega)).mono ?_
                rintro e w' ⟨rfl, rfl⟩
                exact ⟨_, rfl, ⟨hC, Ext.refl _⟩, rfl⟩
              simp only [List.nil_append, List.cons_append]
              repeat (apply tame_q rfl; (intro ρ W hC hr hD; (obtain ⟨hrc, hrg, hrf, hrs⟩ := hr); (simp [go_sem] at hD); go_simp; first | exact ⟨⟨hC, Ext.refl _⟩, rfl⟩ | exact ⟨⟨hC, RS.refl _⟩, rfl⟩ | exact rfl); simp only [List.nil_append, List.cons_append])
              refine tame_end 77 rfl rfl (fun ρ W hC hr hF => ?_)
              obtain ⟨hrc, hrg, hrf, hrs⟩ := hr
              simp [go_sem] at hF
              apply frame_to
              · go_simp
                exact rfl
              clear hF hrs hrc hrg hrf m1 z3 zl
              have BZ3 := Lib.hid (BZ.out.ext hC)
              have EX4 := Lib.hid (EX3.out.trans hC)
              clear hC
              by_cases heq : weight d (x.damp.lo + (q : Int)) = x.pounds
              · have HQ := Lib.hid heq
                have heq' : (weight d (x.damp.lo + (q : Int)) == x.pounds) = true := by simpa using heq
                clear heq
                go_wp2
                go_roundg (N - (q + 1))
                case measure => omega
                case rel => exact ⟨q + 1, min lo (x.damp.lo + (q : Int)), max hi (x.damp.lo + (q : Int)), by omega, by omega, by simp; omega, rfl, rfl, by show _ = _; rw [hitsTo, FQ.out, hitStep, if_pos HQ.out], BZ3.out, EX4.out⟩
              · have HQ := Lib.hid heq
                have heq' : (weight d (x.damp.lo + (q : Int)) == x.pounds) = false := by simpa using heq
                clear heq
                go_wp2
                go_roundg (N - (q + 1))
                case measure => omega
                case rel => exact ⟨q + 1, lo, hi, by omega, by omega, by simp; omega, rfl, rfl, by show _ = _; rw [hitsTo, FQ.out, hitStep, if_neg HQ.out], BZ3.out, EX4.out⟩
            · have HQN := Lib.hid (show q = N by omega)
              have hgt : x.damp.hi < x.damp.lo + (q : Int) := by omega
              have HH := Lib.hid (show hitsR d x = ⟨lo, hi⟩ by unfold hitsR; rw [hNN, ← HQN.out, FQ.out])
              rw [HH.out] at HAN HNN
              dsimp only at HAN HNN
              cases wt <;> cases dr
              all_goals
                go_wp2
                go_roundg (n2 - (k + 1))
                case measure => omega
                case rel => exact ⟨k + 1, by omega, by omega, by simp, by rw [HAN.out]; simp, by rw [HNN.out]; simp, EX3.out⟩
        · have HWT := Lib.hid (show ((b.weighs.take k).any fun x => decide (damp < (hitsR d x).lo)) = wetR damp b.weighs d by unfold wetR; rw [List.take_of_length_le (by have := hn2.out; omega)])
          have HDR := Lib.hid (show ((b.weighs.take k).all fun x => decide ((hitsR d x).hi ≤ damp)) = dryR damp b.weighs d by unfold dryR; rw [List.take_of_length_le (by have := hn2.out; omega)])
          rw [HWT.out, HDR.out]
          generalize wetR damp b.weighs d = wt at *
          generalize dryR damp b.weighs d = dr at *
          cases su <;> cases ne
          all_goals
            go_wp2
            go_roundg (nl - (j + 1))
            case measure => omega
            case rel => exact ⟨j + 1, by omega, by omega, by simp, by rw [HSN.out]; simp, by rw [HDN.out]; simp, EX2.out⟩
    · have HS := Lib.hid (show ((dries b).take j).all (wetR damp b.weighs) = surelyR b damp by unfold surelyR; rw [List.take_of_length_le (by have := hnl.out; omega)])
      have HN := Lib.hid (show ((dries b).take j).all (dryR damp b.weighs) = neverR b damp by unfold neverR; rw [List.take_of_length_le (by have := hnl.out; omega)])
      go_wp2
      refine bodyPost_ret (v := .tuple #[.bool (surelyR b damp), .bool (neverR b damp)]) (by rw [← HS.out, ← HN.out]; simp [results, Tryd.results72, go_sem]) rfl ?_
      exact ⟨rfl, HE1.out.trans EX.out⟩
end Go.Proofs.YtcoiahjehlplfaaDoor
