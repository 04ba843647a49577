/- The law ChainHanded: who passes on gets and gives (the last part of the walk). -/
import Derived.Test.YtafdbgielmlihaaDoorPkChLeastCardU
import Derived.Test.YtafdbgielmlihaaDoorPkChLeastCardR
import Derived.Test.YtafdbgielmlihaaDoorPkChLeastCardL
import Derived.Test.YtafdbgielmlihaaDoorPkChHandedCardB
import Derived.Test.YtafdbgielmlihaaDoorPkChLeastCardD
namespace Go.Proofs.YtafdbgielmlihaaDoor
open Go.RowKit Go.Shelf Go.Lib
set_option maxRecDepth 100000
set_option linter.unusedSimpArgs false

theorem any_snoc {l : List Int} {k : Nat} {x id : Int} (h : l[k]? = some x) : ((l.take (k + 1)).any fun y => decide (y = id)) = (((l.take k).any fun y => decide (y = id)) || decide (x = id)) := by
  rw [List.take_add_one, h, List.any_append]
  simp
theorem pass_in {c : Chn} {l : List Int} (hc : checkP c = true) {id : Int} (hid : id ∈ c.houses) : ((passesL c l).any fun y => decide (y = id)) = (buysB (c.sales.zip l) id && sellsB (c.sales.zip l) id) := by
  unfold passesL passL
  rw [if_pos hc]
  rw [Bool.eq_iff_iff, List.any_eq_true]
  constructor
  · rintro ⟨x, hx, he⟩
    have := of_decide_eq_true he
    subst this
    have h := (List.mem_filter.1 hx).2
    unfold passB at h
    rw [Bool.and_eq_true] at h
    rw [Bool.and_eq_true]
    exact ⟨h.2, h.1⟩
  · intro h
    rw [Bool.and_eq_true] at h
    refine ⟨id, List.mem_filter.2 ⟨hid, ?_⟩, by simp⟩
    unfold passB
    rw [Bool.and_eq_true]
    exact ⟨h.2, h.1⟩
set_option maxHeartbeats 8000000 in
theorem third_wp {c : Chn} {l : List Int} {w w2 : World} {a0 : Act} {A : Option Addr} {n cp : Nat} {A2 : Option Addr} {n2 cp2 : Nat} {Ap : Option Addr} {np cpp : Nat} {Am : Option Addr} {cm : Nat} {all nn : Int} (hh : SlI w (.slice A n cp) c.houses) (hs : SlL w (.slice A2 n2 cp2) c.sales) (hc : checkP c = true)
    (hnn : n = c.houses.length) (hnn2 : n2 = c.sales.length) (hll : l.length = c.sales.length) (hE : Ext w w2) (hB : Blk w2 w.heap.size 25 #[.slice A n cp, .slice A2 n2 cp2]) (hp : SlI w2 (.slice Ap np cpp) (passesL c l)) (hm : SlI w2 (.slice Am n2 cm) l) (hle : all ≤ nn)
    (hF : Fr 278 [(1, .pointer (some ⟨w.heap.size, 0, none⟩)), (3, .bool true), (8, .slice Ap np cpp), (10, .slice Am n2 cm), (11, .int .i64 nn), (13, .int .i64 all)] [] a0) :
    (subC [1, 1, 1, 1, 1, 1, 1, 1, 1, 1, 1] (Tryd.f12.body.getD .skip)).wp Tryd.prog (bodyPost Tryd.prog Tryd.f12 fun e w' => e = .returned (.bool true) ∧ Ext w w') a0 w2 := by
  have HH := Lib.hid hh; have HS := Lib.hid hs; have HC := Lib.hid hc; have hn := Lib.hid hnn; have hn2 := Lib.hid hnn2; have E0 := Lib.hid hE; have B0 := Lib.hid hB; have PL := Lib.hid hp; have ML := Lib.hid hm; have HLL := Lib.hid hll
  have HR := Lib.hid (check_right HC.out).1
  have HN := Lib.hid (check_right HC.out).2
  obtain ⟨Ap', np', cp', eP, hnp, hlp, hcpp⟩ := hp.form
  cases eP
  clear hh hs hc hnn hnn2 hE hB hp hm hll
  have hb2 : n2 ≤ 1000 := by have := hn2.out; have := HN.out; omega
  have hb1 : n ≤ 1000 := by have := hn.out; have := HR.out.h6; omega
  have hb3 : np ≤ 1000 := by
    have h1 := hnp.out
    have h2 : (passesL c l).length ≤ c.houses.length := by unfold passesL passL; rw [if_pos HC.out]; exact List.length_filter_le _ _
    have := HR.out.h6
    omega
  delta Tryd.f12
  simp only [subC, Option.getD_some]
  obtain ⟨ρ0, rfl, hρ⟩ := hF.open_
  simp only [List.forall_mem_cons] at hρ
  obtain ⟨r1, r3, r8, r10, r11, r13, -⟩ := hρ
  simp only [lst, Nat.reduceAdd, r1, r3, r8, r10, r11, r13]
  clear r1 r3 r8 r10 r11 r13 hF
  have t0 := B0.out.c2
  go_wp2
  clear t0
  go_loopg [211] n (fun gg s wr => ∃ kk : Nat, kk ≤ n ∧ n - kk ≤ gg ∧ s = .int .i64 kk ∧ Aside (Ext w2 wr))
  case atStart => exact ⟨0, Nat.zero_le _, by omega, rfl, Ext.refl _⟩
  case round =>
    obtain ⟨kk, hle', hm2, rfl, EX⟩ := hrel
    have EX := Lib.hid EX.out
    by_cases hlt : kk < n
    · have hltz : (kk : Int) < (n : Int) := by omega
      obtain ⟨wx, hwx⟩ : ∃ wx, wx = wr := ⟨_, rfl⟩
      subst hwx
      obtain ⟨bh, fh, id, rfl, hid, -, hch⟩ := HH.out.at_ hlt
      have r0 : wx.cell? ⟨bh, fh + kk, none⟩ = some (.int .i64 id) := by simpa using hch wx (E0.out.trans EX.out) 0 _ rfl
      have HPI := Lib.hid (pass_in (l := l) HC.out (List.mem_of_getElem? hid))
      have t0 := (B0.out.ext EX.out).c2
      clear hid hch
      go_wp2
      clear r0 t0
      go_loopg [24, 25, 218] n2 (fun gg g1 g2 s wr => ∃ jj : Nat, jj ≤ n2 ∧ n2 - jj ≤ gg ∧ s = .int .i64 jj ∧ g1 = .bool (buysB ((c.sales.zip l).take jj) id) ∧ g2 = .bool (sellsB ((c.sales.zip l).take jj) id) ∧ Aside (Ext wx wr))
      case atStart => exact ⟨0, Nat.zero_le _, by omega, rfl, by simp [buysB], by simp [sellsB], Ext.refl _⟩
      case round =>
        obtain ⟨jj, hle2, hm3, rfl, rfl, rfl, EJ⟩ := hrel
        have EJ := Lib.hid EJ.out
        by_cases hlt2 : jj < n2
        · have hltz2 : (jj : Int) < (n2 : Int) := by omega
          obtain ⟨b, off, x, rfl, hx, -, hcell⟩ := HS.out.at_ hlt2
          obtain ⟨bm, fm, y, rfl, hy, -, hcm⟩ := ML.out.at_ hlt2
          obtain ⟨c0, c1, c2, c3, c4⟩ := SlL.cells hcell ((E0.out.trans EX.out).trans EJ.out)
          have HB := Lib.hid (buys_snoc id hx hy)
          have HSE := Lib.hid (sells_snoc id hx hy)
          generalize buysB ((c.sales.zip l).take jj) id = gb at *
          generalize sellsB ((c.sales.zip l).take jj) id = gs at *
          clear hx hy hcell
          obtain ⟨w3, hw3⟩ : ∃ w3, w3 = wr.alloc (.cells #[.int .i64 x.number, .int .i64 x.seller, .int .i64 x.buyer, .int .i64 x.bales, .int .i64 x.price] 68) := ⟨_, rfl⟩
          have BX := Lib.hid (show Blk w3 wr.heap.size 68 #[.int .i64 x.number, .int .i64 x.seller, .int .i64 x.buyer, .int .i64 x.bales, .int .i64 x.price] from hw3 ▸ Blk.new _ _ _)
          have E3 := Lib.hid (show Ext wx w3 from hw3 ▸ EJ.out.alloc _)
          go_wp2
          rw [← hw3]
          clear hw3 c0 c1 c2 c3 c4
          have m0 := fun W (h : Ext w3 W) => (BX.out.ext h).c5
          have m1 := fun W (h : Ext w3 W) => (show W.cell? ⟨bm, fm + jj, none⟩ = some (.int .i64 y) by simpa using hcm W (EX.out.trans (E3.out.trans h)) 0 _ rfl)
          obtain ⟨q1, hq1⟩ : ∃ q1, (x.buyer == id) = q1 := ⟨_, rfl⟩
          obtain ⟨q2, hq2⟩ : ∃ q2, (x.seller == id) = q2 := ⟨_, rfl⟩
          have d1 : decide (x.buyer = id) = q1 := by rw [← hq1, Bool.eq_iff_iff]; simp
          have d2 : decide (x.seller = id) = q2 := by rw [← hq2, Bool.eq_iff_iff]; simp
          rw [d1] at HB
          rw [d2] at HSE
          clear d1 d2
          have K1 : gb = true ∨ (gb = false ∧ q1 = false) ∨ (gb = false ∧ q1 = true ∧ 0 < y) ∨ (gb = false ∧ q1 = true ∧ ¬ 0 < y) := by
            cases gb <;> cases q1 <;> by_cases h : 0 < y <;> simp [h]
          have K2 : gs = true ∨ (gs = false ∧ q2 = false) ∨ (gs = false ∧ q2 = true ∧ 0 < y) ∨ (gs = false ∧ q2 = true ∧ ¬ 0 < y) := by
            cases gs <;> cases q2 <;> by_cases h : 0 < y <;> simp [h]
          obtain ⟨gb0, hgb0⟩ : ∃ gb0, gb0 = gb := ⟨_, rfl⟩
          rcases K1 with rfl | ⟨rfl, rfl⟩ | ⟨rfl, rfl, hy0⟩ | ⟨rfl, rfl, hy0⟩ <;> rcases K2 with rfl | ⟨rfl, rfl⟩ | ⟨rfl, rfl, hy0⟩ | ⟨rfl, rfl, hy0⟩
          all_goals try (exfalso; omega)
          all_goals
            refine wp_region_tame_cutkG (fun W => Ext w3 W) (fun W W' => Ext W W') (OldT 0 28 24 (.bool gb0)) (by kernel_rfl) 278 rfl 29 (by decide +kernel) (by decide +kernel) (by decide +kernel) (Ext.refl _).drew (OldT.start (by rw [hgb0]; rfl)) ?_
            simp only [List.take, List.drop]
            apply tameG_m rfl rfl (.bool gb0)
            · intro ρ L W hC hr hI hL hLs hD
              have hL0 : L 0 = false := hL
              have h24 : ρ (.tmp 24) = .bool gb0 := hI.1 (by
                cases h : L 28 with
                | false => rfl
                | true => have h9 := hI.2 h; rw [hL0] at h9; cases h9)
              have hI2 := OldT.keep (i := 0) (i0 := 0) (i1 := 28) (t := 24) (d := 223) rfl rfl L _ W (.bool gb0) hI
              clear hI hLs hL hL0 hD hgb0
              go_simp
              exact ⟨⟨hC, Ext.refl _⟩, rfl⟩
            simp only [List.nil_append, List.cons_append]
            repeat (apply tameG_q rfl (OldT.keep rfl rfl); (intro ρ W hC hr hD; (obtain ⟨hrc, hrg, hrf, hrs⟩ := hr); (simp [go_sem] at hD); go_simp; first | exact ⟨⟨hC, Ext.refl _⟩, rfl⟩ | exact rfl); simp only [List.nil_append, List.cons_append])
            apply tameG_m rfl rfl
            · intro ρ L W hC hr hI hL hLs hD
              have h0 : L 0 = true := hLs ⟨0, .phase⟩ (by simp) rfl
              clear hLs hI hL
              simp [go_sem] at hD
              go_simp
              exact ⟨⟨hC, Ext.refl _⟩, rfl, fun h => (by cases h), fun _ => h0⟩
            simp only [List.nil_append, List.cons_append]
            refine tameG_end_put rfl rfl (fun ρ W hC hr hF => ?_)
            simp [go_sem] at hF
            simp only [putF, hF, List.set_cons_succ, List.set_cons_zero]
            clear hF hr
            have E4 := Lib.hid (E3.out.trans hC)
            clear hC m0 m1
            go_wp2
            go_roundg (n2 - (jj + 1))
            case measure => omega
            case rel => exact ⟨jj + 1, by omega, by omega, by simp, by rw [HB.out]; first | rfl | (simp; done) | simp [hy0], by rw [HSE.out]; first | rfl | (simp; done) | simp [hy0], E4.out⟩
        · have hjj : jj = n2 := by omega
          have HZ := Lib.hid (zip_all (c := c) (l := l) (i := jj) (by have := hn2.out; omega))
          rw [HZ.out]
          obtain ⟨GB, hGB⟩ : ∃ GB, buysB (c.sales.zip l) id = GB := ⟨_, rfl⟩
          obtain ⟨GS, hGS⟩ : ∃ GS, sellsB (c.sales.zip l) id = GS := ⟨_, rfl⟩
          have hpi := HPI.out
          rw [hGB, hGS] at hpi
          have HPJ := Lib.hid hpi
          rw [hGB, hGS]
          clear hGB hGS hpi hjj
          obtain ⟨wy, hwy⟩ : ∃ wy, wy = wr := ⟨_, rfl⟩
          subst hwy
          have EY := Lib.hid (EX.out.trans EJ.out)
          go_wp2
          go_loopg [26, 254] np (fun gg q s wr => ∃ ii : Nat, ii ≤ np ∧ np - ii ≤ gg ∧ s = .int .i64 ii ∧ q = .bool (((passesL c l).take ii).any fun y => decide (y = id)) ∧ Aside (Ext wy wr))
          case atStart => exact ⟨0, Nat.zero_le _, by omega, rfl, by simp, Ext.refl _⟩
          case round =>
            obtain ⟨ii, hle3, hm4, rfl, rfl, EI⟩ := hrel
            have EI := Lib.hid EI.out
            by_cases hlt3 : ii < np
            · have hltz3 : (ii : Int) < (np : Int) := by omega
              obtain ⟨bp, fp, x, rfl, hx, -, hcp⟩ := PL.out.at_ hlt3
              have r0 : wr.cell? ⟨bp, fp + ii, none⟩ = some (.int .i64 x) := by simpa using hcp wr (EY.out.trans EI.out) 0 _ rfl
              have HA := Lib.hid (any_snoc (id := id) hx)
              generalize (((passesL c l).take ii).any fun y => decide (y = id)) = ga at *
              obtain ⟨q1, hq1⟩ : ∃ q1, (x == id) = q1 := ⟨_, rfl⟩
              have d1 : decide (x = id) = q1 := by rw [← hq1, Bool.eq_iff_iff]; simp
              rw [d1] at HA
              clear d1 hx hcp
              cases ga <;> cases q1
              all_goals
                go_wp2
                go_roundg (np - (ii + 1))
                case measure => omega
                case rel => exact ⟨ii + 1, by omega, by omega, by simp, by rw [HA.out]; rfl, EI.out⟩
            · have HTA := Lib.hid (show (((passesL c l).take ii).any fun y => decide (y = id)) = (GB && GS) by
                rw [List.take_of_length_le (by have := hnp.out; omega)]; exact HPJ.out)
              rw [HTA.out]
              have EZ := Lib.hid (EY.out.trans EI.out)
              cases GB <;> cases GS
              all_goals
                go_wp2
                go_roundg (n - (kk + 1))
                case measure => omega
                case rel => exact ⟨kk + 1, by omega, by omega, by simp, EZ.out⟩
    · go_wp2
      go_ret
      exact ⟨rfl, E0.out.trans EX.out⟩
end Go.Proofs.YtafdbgielmlihaaDoor
