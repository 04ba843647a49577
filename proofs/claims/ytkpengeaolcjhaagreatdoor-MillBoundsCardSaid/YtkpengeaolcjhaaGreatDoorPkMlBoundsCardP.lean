/- mill.ids, the checks of a mill, Check. -/
import Derived.Test.YtkpengeaolcjhaaGreatDoorPkMlBoundsCardO
import Derived.Test.YtkpengeaolcjhaaGreatDoorPkMlBoundsCardD
namespace Go.Proofs.YtkpengeaolcjhaaGreatDoor
open Go.RowKit Go.Shelf Go.Lib
set_option maxRecDepth 100000
set_option linter.unusedSimpArgs false

abbrev valM (lots size : Int) (sv : Value) : Value := .agg #[.int .i64 lots, .int .i64 size, sv]
set_option maxHeartbeats 1000000 in
theorem ids_any (lots size : Int) (l : List Rc) (sv : Value) (w : World) (hs : SlC w sv l) (hlen : l.length ≤ 1000) :
    Calls Tryz.prog 59 #[valM lots size sv] w fun e w' => (∃ v, e = .returned v ∧ Own encI 3 1 w' w.heap.size v (l.map (·.c.b.id))) ∧ Ext w w' := by
  obtain ⟨A, n, c, rfl, hn, hlc, hcm⟩ := hs.form
  have HS := Lib.hid hs; clear hs
  have HN := Lib.hid hlen
  go_enter Tryz.func59, Tryz.ntmps59
  go_wp2
  go_loopg [3, 9] n (fun gg v s9 wr => ∃ kk : Nat, kk ≤ n ∧ n - kk ≤ gg ∧ s9 = .int .i64 kk ∧ Aside (Own encI 3 1 wr w.heap.size v ((l.take kk).map (·.c.b.id))) ∧ Aside (Ext w wr) ∧ Aside (w.heap.size < wr.heap.size))
  case atStart => exact ⟨0, Nat.zero_le _, by omega, rfl, Own.nil _ _, Ext.al _ _, by show _ < _; simp⟩
  case round =>
    obtain ⟨kk, hkk, hg, rfl, OW, BW, HZ⟩ := hrel
    by_cases hlt : kk < n
    · have hltz : (kk : Int) < (n : Int) := by omega
      obtain ⟨b, off, x, rfl, hx, hb, hcell⟩ := HS.out.at_ hlt
      obtain ⟨c0, c1, c2, c3, c4, c5, c6, c7⟩ := SlC.cells hcell BW.out
      have HT := Lib.hid (show (l.take (kk + 1)).map (·.c.b.id) = (l.take kk).map (·.c.b.id) ++ [x.c.b.id] by rw [List.take_add_one, hx, List.map_append]; rfl)
      have HLN := Lib.hid (show ((l.take kk).map (·.c.b.id)).length = kk by have := hn.out; rw [List.length_map, List.length_take]; omega)
      generalize (l.take kk).map (·.c.b.id) = L0 at *
      have HL := Lib.hid (show L0.length < 100000000000 by have := hn.out; have := HN.out; have := HLN.out; omega)
      clear hx hcell
      go_wp2_with (at_builtin; refine wpList_app encI 36 3 1 _ 8 Tryz.underlying36 info3x rfl (by decide) (by decide) (fun _ => rfl) encI_one rfl (.tmp 13) (.tmp 17) rfl w.heap.size _ L0 rfl ((OW.out.alloc _).alloc _) (wr.heap.size + 1) 1 x.c.b.id rfl (cells1 (by simp [go_sem])) HL.out (by have := BW.out.size; simp; omega) ?_)
      intro g cap w' hown hg2 hbel _
      have hlr := HLN.out
      rw [hlr] at hown
      have HO := Lib.hid (show Own encI 3 1 w' w.heap.size (.slice (some ⟨g, 0, none⟩) (kk + 1) cap) ((l.take (kk + 1)).map (·.c.b.id)) by rw [HT.out]; exact hown)
      have HB := Lib.hid (show Ext w w' from Below.trans ((BW.out.alloc _).alloc _) hbel)
      have HZ2 := Lib.hid (show w.heap.size < w'.heap.size by have := HZ.out; have := hbel.size; simp at this; omega)
      clear hown hbel
      go_wp2
      go_roundg (n - (kk + 1))
      case measure => omega
      case rel => exact ⟨kk + 1, by omega, by omega, rfl, by rw [hlr]; exact HO.out, HB.out, HZ2.out⟩
    · have HE := Lib.hid (show kk = n by omega)
      go_wp2
      go_ret
      exact ⟨⟨_, rfl, by have := OW.out; rwa [List.take_of_length_le (by have := HE.out; have := hn.out; omega)] at this⟩, BW.out⟩

theorem f187_any (lots size : Int) (l : List Rc) (sv : Value) (w : World) (hs : SlC w sv l) :
    Calls Tryz.prog 187 #[valM lots size sv] w fun e w' => e = .returned (.bool (ck0 (mOf lots size l))) ∧ Ext w w' := by
  obtain ⟨A, n, c, rfl, hn, hlc, hcm⟩ := hs.form
  have HD := Lib.hid (show ck0 (mOf lots size l) = ((inB 1 3 lots && inB 2 4 size) && decide ((n : Int) ≤ 7)) by unfold ck0; rw [hn.out]; simp)
  clear hs hn
  go_enter Tryz.func187, Tryz.ntmps187
  go_wp2_with fail
  refine (inM1_any 1 3 lots _ _ (by simp) (by simp [go_sem])).mono ?_
  rintro e w1 ⟨rfl, hb1⟩
  obtain ⟨hc, hf⟩ := hb1.cells
  have hz := hb1.size
  simp at hz
  have E1 := Lib.hid (((Ext.al w _).trans (Ext.al _ _)).trans hb1); clear hb1
  have hz1 : w.heap.size < w1.heap.size := by omega
  cases hA : inB 1 3 lots
  · have HA := Lib.hid hA; clear hA
    go_wp2
    go_ret
    exact ⟨ret_bool (by rw [HD.out, HA.out]; rfl), E1.out⟩
  have HA := Lib.hid hA; clear hA
  go_wp2_with fail
  refine (inM1_any 2 4 size _ _ (by simp) (by simp [go_sem])).mono ?_
  rintro e w2 ⟨rfl, hb2⟩
  obtain ⟨hc2, hf2⟩ := hb2.cells
  have hz := hb2.size
  simp at hz
  have hz2 : w.heap.size < w2.heap.size := by omega
  have hz12 : w1.heap.size < w2.heap.size := by omega
  have E2 := Lib.hid ((E1.out.trans (Ext.al _ _)).trans hb2); clear hb2 E1
  cases hB : inB 2 4 size
  · have HB := Lib.hid hB; clear hB
    go_wp2
    go_ret
    exact ⟨ret_bool (by rw [HD.out, HA.out, HB.out]; rfl), E2.out⟩
  have HB := Lib.hid hB; clear hB
  go_wp2
  go_ret
  exact ⟨ret_bool (by rw [HD.out, HA.out, HB.out]; rfl), E2.out⟩

theorem f190_any (r : Rc) (w : World) (hT : Tab w) (hd : SlD w (.slice r.da r.dn r.dc) r.c.b.draws) (hw : SlW w (.slice r.wa r.wn r.wc) r.c.b.weighs) :
    Calls Tryz.prog 190 #[valC r] w fun e w' => e = .returned (.bool (!valid r.c.b)) ∧ Ext w w' := by
  have HT := Lib.hid hT; have HD := Lib.hid hd; have HW := Lib.hid hw
  clear hT hd hw
  go_enter Tryz.func190, Tryz.ntmps190
  go_wp2_with fail
  refine (check_any r.c.b r.dv r.wv _ (HT.out.ext (Ext.al _ _)) (HD.out.ext (Ext.al _ _)) (HW.out.ext (Ext.al _ _))).mono ?_
  rintro e w1 ⟨rfl, hb1⟩
  have E1 := Lib.hid ((Ext.al w _).trans hb1); clear hb1
  cases hv : valid r.c.b
  · have HV := Lib.hid hv; clear hv
    simp only [errB]
    go_wp2
    go_ret
    exact ⟨by rw [HV.out]; rfl, E1.out⟩
  · have HV := Lib.hid hv; clear hv
    simp only [errB]
    go_wp2
    go_ret
    exact ⟨by rw [HV.out]; rfl, E1.out⟩
theorem f188_any (lots size : Int) (l : List Rc) (sv : Value) (w : World) (hT : Tab w) (hs : MlC w sv l) :
    Calls Tryz.prog 188 #[valM lots size sv] w fun e w' => e = .returned (.bool (ck1 (mOf lots size l))) ∧ Ext w w' := by
  have HT := Lib.hid hT
  have HS := Lib.hid hs
  obtain ⟨A, n, c, rfl, hn, hlc, hcm⟩ := hs.1.form
  have HD := Lib.hid (show ck1 (mOf lots size l) = !(l.any fun r => !valid r.c.b) by unfold ck1; rw [List.any_map]; rfl)
  clear hs hn hT
  go_enter Tryz.func188, Tryz.ntmps188
  go_wp2_with fail
  refine (f189_any 190 _ (enters_of Tryz.func190 (by kernel_rfl) rfl) (fun r => !valid r.c.b) l _ _ (HS.out.1.ext (Ext.al _ _)) ?_).mono ?_
  · intro W x hx hW
    have hE := (Ext.al w (.cells #[.int .i64 lots, .int .i64 size, .slice A n c] 24)).trans hW
    simpa using f190_any x W (HT.out.ext hE) ((HS.out.2 x hx).1.ext hE) ((HS.out.2 x hx).2.ext hE)
  rintro e w1 ⟨rfl, hb1⟩
  generalize hr : (l.any fun r => !valid r.c.b) = r at HD
  clear hr
  go_wp2
  go_ret
  exact ⟨by rw [HD.out]; rfl, (Ext.al _ _).trans hb1⟩

theorem f195_any (r : Rc) (w : World) :
    Calls Tryz.prog 195 #[valC r] w fun e w' => e = .returned (.bool (badC r.c)) ∧ Ext w w' := by
  go_enter Tryz.func195, Tryz.ntmps195
  go_wp2_with fail
  refine (inM1_any 1 60 r.c.len _ _ (by simp) (by simp [go_sem])).mono ?_
  rintro e w1 ⟨rfl, hb1⟩
  obtain ⟨hc, hf⟩ := hb1.cells
  have hz := hb1.size
  simp at hz
  have E1 := Lib.hid (((Ext.al w _).trans (Ext.al _ _)).trans hb1); clear hb1
  have hz1 : w.heap.size < w1.heap.size := by omega
  cases hA : inB 1 60 r.c.len
  · have HA := Lib.hid hA; clear hA
    go_wp2
    go_ret
    exact ⟨ret_bool (by unfold badC; rw [HA.out]; rfl), E1.out⟩
  have HA := Lib.hid hA; clear hA
  go_wp2_with fail
  refine (inM1_any 1 200 r.c.str _ _ (by simp) (by simp [go_sem])).mono ?_
  rintro e w2 ⟨rfl, hb2⟩
  have E2 := Lib.hid ((E1.out.trans (Ext.al _ _)).trans hb2); clear hb2 E1
  go_wp2
  go_ret
  exact ⟨ret_bool (by unfold badC; rw [HA.out]; rfl), E2.out⟩
theorem f194_any (lots size : Int) (l : List Rc) (sv : Value) (w : World) (hs : SlC w sv l) :
    Calls Tryz.prog 194 #[valM lots size sv] w fun e w' => e = .returned (.bool (ck3 (mOf lots size l))) ∧ Ext w w' := by
  have HS := Lib.hid hs
  obtain ⟨A, n, c, rfl, hn, hlc, hcm⟩ := hs.form
  have HD := Lib.hid (show ck3 (mOf lots size l) = !(l.any fun r => badC r.c) by unfold ck3; rw [List.any_map]; rfl)
  clear hs hn
  go_enter Tryz.func194, Tryz.ntmps194
  go_wp2_with fail
  refine (f189_any 195 _ (enters_of Tryz.func195 (by kernel_rfl) rfl) (fun r => badC r.c) l _ _ (HS.out.ext (Ext.al _ _)) ?_).mono ?_
  · intro W x hx hW
    simpa using f195_any x W
  rintro e w1 ⟨rfl, hb1⟩
  generalize hr : (l.any fun r => badC r.c) = r at HD
  clear hr
  go_wp2
  go_ret
  exact ⟨by rw [HD.out]; rfl, (Ext.al _ _).trans hb1⟩

theorem tameG_w {P : Program} {C : World → Prop} {R : World → World → Prop} {a0 : Act} {ds : List (Option Tmp)} {Q : Act → World → Prop} {I : (Nat → Bool) → (Nat → Value) → World → Prop} {n : Nat} {o : Oper} {rest : List Oper} {F : Facts} {d : Tmp} (hd : o.dst = some d) (U : Value → World → Prop) (hst : ∀ v W W', C W' → R W W' → U v W → U v W')
    (hstep : ∀ ρ L W, C W → Rd a0 ds ρ → I L (fun t => ρ (.tmp t)) W → L F.length = false → (∀ e ∈ o.after, Region.binds .any e = true → L e.on = true) → (∀ e ∈ o.after, Region.binds .any e = true → Fact F ρ W e.on) →
      if runs F ρ o.guard then opGives P C R o ρ W (fun v W' => U v W' ∧ I (updD L F.length true) (updD (fun t => ρ (.tmp t)) d v) W') else U undef W ∧ I (updD L F.length true) (updD (fun t => ρ (.tmp t)) d undef) W)
    (h : wpTameG P C R I ds a0 Q n rest (F ++ [(some d, U)])) : wpTameG P C R I ds a0 Q n (o :: rest) F := by
  refine ⟨U, hst, fun L A W hC hS hIA hL hLs hD => ?_, by rw [hd]; exact h⟩
  have := hstep A.eval L W hC (Rd.of hS) hIA hL hLs hD
  rw [hd]
  exact this
/-- Until the fourth step is done the list is as it was; the fourth stands behind the second, that one behind the first. -/
def CkI (base : Nat) (v : Value) (ids : List Int) (L : Nat → Bool) (_ : Nat → Value) (W : World) : Prop := (L 4 = false → Own encI 3 1 W base v ids) ∧ (L 4 = true → L 2 = true) ∧ (L 2 = true → L 1 = true)
theorem CkI.other {base : Nat} {v : Value} {ids : List Int} {i d : Nat} (h1 : (i == 4) = false) (h2 : (i == 2) = false) : ∀ (L : Nat → Bool) (e : Nat → Value) (W : World) (u : Value), CkI base v ids L e W → CkI base v ids (updD L i true) (updD e d u) W := by
  intro L e W u h
  have n1 : (4 : Nat) ≠ i := fun x => by rw [← x] at h1; simp at h1
  have n2 : (2 : Nat) ≠ i := fun x => by rw [← x] at h2; simp at h2
  refine ⟨fun hL => ?_, fun hL => ?_, fun hL => ?_⟩
  · rw [updD_ne n1] at hL; exact h.1 hL
  · rw [updD_ne n1] at hL; rw [updD_ne n2]; exact h.2.1 hL
  · rw [updD_ne n2] at hL
    by_cases hi : (1 : Nat) = i
    · rw [hi, updD_self]
    · rw [updD_ne hi]; exact h.2.2 hL
def CmpV (L : Nat) (b : Bool) (v : Value) (_ : World) : Prop := ∃ A n c, v = .slice A n c ∧ n ≤ L ∧ decide (n = L) = b
def CmpN (L : Nat) (b : Bool) (v : Value) (_ : World) : Prop := ∃ n : Nat, v = .int .i64 (n : Int) ∧ n ≤ L ∧ decide (n = L) = b
set_option maxHeartbeats 2000000 in
theorem f191_any (lots size : Int) (l : List Rc) (sv : Value) (w : World) (hs : SlC w sv l) (hlen : l.length ≤ 1000) :
    Calls Tryz.prog 191 #[valM lots size sv] w fun e w' => e = .returned (.bool (ck2 (mOf lots size l))) ∧ Ext w w' := by
  have HS := Lib.hid hs
  obtain ⟨A, n, c, rfl, hn, hlc, hcm⟩ := hs.form
  have HD := Lib.hid (show ck2 (mOf lots size l) = (notDown (l.map (·.c.b.id)) && noTwins (l.map (·.c.b.id))) by unfold ck2 idsL; rw [List.map_map]; rfl)
  have HN := Lib.hid (show (l.map (·.c.b.id)).length = n by rw [List.length_map]; exact hn.out.symm)
  have HL := Lib.hid hlen
  have HNL := Lib.hid (show n ≤ 1000 by have := hn.out; omega)
  clear hs hn
  go_enter Tryz.func191, Tryz.ntmps191
  go_wp2_with fail
  refine (ids_any lots size l _ _ (HS.out.ext (Ext.al _ _)) hlen).mono ?_
  rintro e w1 ⟨⟨v, rfl, ho⟩, hE⟩
  have hz : (w.alloc (.cells #[.int .i64 lots, .int .i64 size, .slice A n c] 24)).heap.size = w.heap.size + 1 := by simp
  rw [hz] at ho
  have HO := Lib.hid ho
  have HB := Lib.hid ((Blk.new w 24 #[.int .i64 lots, .int .i64 size, .slice A n c]).ext hE)
  have HE := Lib.hid ((Ext.al w (.cells #[.int .i64 lots, .int .i64 size, .slice A n c] 24)).trans hE)
  have HZ := Lib.hid (show w.heap.size + 1 ≤ w1.heap.size by have := hE.size; omega)
  generalize l.map (·.c.b.id) = ids at *
  have hq2 := fun W (h : Below (w.heap.size + 1) w1 W) => (show W.cell? ⟨w.heap.size, 2, none⟩ = some (.slice A n c) from (World.cell?_of_block (a := ⟨w.heap.size, 2, none⟩) (h.block w.heap.size (by omega))).trans (HB.out.cell 2))
  clear ho hE hz hlen
  cases hnd : notDown ids
  · have HND := Lib.hid hnd
    clear hnd
    go_wp2_with fail
    refine wp_region_tame_cutkG (fun W => Below (w.heap.size + 1) w1 W) (fun _ _ => True) (CkI (w.heap.size + 1) v ids) (by kernel_rfl) 17 rfl 11 (by decide +kernel) (by decide +kernel) rfl (Below.refl _ _).drew ⟨fun _ => HO.out.ext (Ext.refl _).drew, fun h => (by cases h), fun h => (by cases h)⟩ ?_
    simp only [List.take, List.drop]
    repeat (apply tameG_q rfl (CkI.other rfl rfl); (intro ρ W hC hr hD; (obtain ⟨hrc, hrg, hrf, hrs⟩ := hr); (simp [go_sem] at hD); go_simp; first | exact ⟨⟨hC, trivial⟩, rfl⟩ | exact rfl); simp only [List.nil_append, List.cons_append])
    apply tameG_w rfl (fun x _ => x = .bool false) (fun _ _ _ _ _ h => h)
    · intro ρ L W hC hr hI hL hLs hD
      obtain ⟨hrc, hrg, hrf, hrs⟩ := hr
      simp [go_sem] at hD
      have hL1 : L 1 = false := hL
      have h4 : L 4 = false := by
        cases h : L 4 with
        | false => rfl
        | true => have := hI.2.2 (hI.2.1 h); rw [hL1] at this; cases this
      have ho := hI.1 h4
      have HI := Lib.hid hI; have HOW := Lib.hid ho; have HCC := Lib.hid hC
      clear hI hL hLs ho
      go_simp
      refine (sorted_any ids v W (HOW.out.sl (fun _ => rfl))).mono ?_
      rintro e w' ⟨rfl, hE⟩
      rw [HND.out]
      exact ⟨_, rfl, ⟨HCC.out.trans (hE.mono (Nat.le_trans HZ.out HCC.out.size)), trivial⟩, rfl, ⟨fun _ => HOW.out.ext hE, (fun h => by rw [updD_ne (by decide), h4] at h; cases h), (fun _ => by rw [updD_self])⟩⟩
    simp only [List.nil_append, List.cons_append]
    apply tameG_w rfl (fun x _ => x = .bool false) (fun _ _ _ _ _ h => h)
    · intro ρ L W hC hr hI hL hLs hD
      obtain ⟨hrc, hrg, hrf, hrs⟩ := hr
      simp [go_sem] at hD
      have hL1 : L 1 = true := hLs { on := 1, ground := .data } (by simp) rfl
      have HI2 := Lib.hid (show ∀ e, CkI (w.heap.size + 1) v ids (updD L 2 true) e W from fun e => ⟨(fun h => hI.1 (by rwa [updD_ne (by decide)] at h)), (fun h => by rw [updD_self]), (fun _ => by rw [updD_ne (by decide)]; exact hL1)⟩)
      have HCC := Lib.hid hC
      clear hI hL hLs
      go_simp
      first | exact ⟨⟨HCC.out, trivial⟩, rfl, HI2.out _⟩ | exact ⟨⟨HCC.out, trivial⟩, HI2.out _⟩
    simp only [List.nil_append, List.cons_append]
    repeat (apply tameG_q rfl (CkI.other rfl rfl); (intro ρ W hC hr hD; (obtain ⟨hrc, hrg, hrf, hrs⟩ := hr); (simp [go_sem] at hD); go_simp; first | exact ⟨⟨hC, trivial⟩, rfl⟩ | exact rfl); simp only [List.nil_append, List.cons_append])
    apply tameG_w rfl (fun x _ => x = undef) (fun _ _ _ _ _ h => h)
    · intro ρ L W hC hr hI hL hLs hD
      obtain ⟨hrc, hrg, hrf, hrs⟩ := hr
      simp [go_sem] at hD
      have hL2 : L 2 = true := hLs { on := 2, ground := .guard } (by simp) rfl
      have HI2 := Lib.hid (show ∀ e, CkI (w.heap.size + 1) v ids (updD L 4 true) e W from fun e => ⟨(fun h => by rw [updD_self] at h; cases h), (fun _ => by rw [updD_ne (by decide)]; exact hL2), (fun h => by rw [updD_ne (by decide)]; rw [updD_ne (by decide)] at h; exact hI.2.2 h)⟩)
      clear hI hL hLs
      go_simp
      first | exact ⟨rfl, HI2.out _⟩ | exact HI2.out _
    simp only [List.nil_append, List.cons_append]
    repeat (apply tameG_q rfl (CkI.other rfl rfl); (intro ρ W hC hr hD; (obtain ⟨hrc, hrg, hrf, hrs⟩ := hr); (simp [go_sem] at hD); go_simp; first | exact ⟨⟨hC, trivial⟩, rfl⟩ | exact rfl); simp only [List.nil_append, List.cons_append])
    refine tameG_end_put rfl rfl (fun ρ W hC hr hF => ?_)
    simp [go_sem] at hF
    simp only [putF, hF, List.set_cons_succ, List.set_cons_zero]
    clear hF hr
    have HBE := Lib.hid (show Ext w W from Below.trans HE.out (hC.mono (Nat.le_succ _)))
    clear hC
    go_wp2
    go_ret
    exact ⟨by rw [HD.out, HND.out]; rfl, HBE.out⟩
  · have HND := Lib.hid hnd
    clear hnd
    go_wp2_with fail
    refine wp_region_tame_cutkG (fun W => Below (w.heap.size + 1) w1 W) (fun _ _ => True) (CkI (w.heap.size + 1) v ids) (by kernel_rfl) 17 rfl 11 (by decide +kernel) (by decide +kernel) rfl (Below.refl _ _).drew ⟨fun _ => HO.out.ext (Ext.refl _).drew, fun h => (by cases h), fun h => (by cases h)⟩ ?_
    simp only [List.take, List.drop]
    repeat (apply tameG_q rfl (CkI.other rfl rfl); (intro ρ W hC hr hD; (obtain ⟨hrc, hrg, hrf, hrs⟩ := hr); (simp [go_sem] at hD); go_simp; first | exact ⟨⟨hC, trivial⟩, rfl⟩ | exact rfl); simp only [List.nil_append, List.cons_append])
    apply tameG_w rfl (fun x _ => x = .bool true) (fun _ _ _ _ _ h => h)
    · intro ρ L W hC hr hI hL hLs hD
      obtain ⟨hrc, hrg, hrf, hrs⟩ := hr
      simp [go_sem] at hD
      have hL1 : L 1 = false := hL
      have h4 : L 4 = false := by
        cases h : L 4 with
        | false => rfl
        | true => have := hI.2.2 (hI.2.1 h); rw [hL1] at this; cases this
      have ho := hI.1 h4
      have HI := Lib.hid hI; have HOW := Lib.hid ho; have HCC := Lib.hid hC
      clear hI hL hLs ho
      go_simp
      refine (sorted_any ids v W (HOW.out.sl (fun _ => rfl))).mono ?_
      rintro e w' ⟨rfl, hE⟩
      rw [HND.out]
      exact ⟨_, rfl, ⟨HCC.out.trans (hE.mono (Nat.le_trans HZ.out HCC.out.size)), trivial⟩, rfl, ⟨fun _ => HOW.out.ext hE, (fun h => by rw [updD_ne (by decide), h4] at h; cases h), (fun _ => by rw [updD_self])⟩⟩
    simp only [List.nil_append, List.cons_append]
    apply tameG_w rfl (fun x _ => x = .bool true) (fun _ _ _ _ _ h => h)
    · intro ρ L W hC hr hI hL hLs hD
      obtain ⟨hrc, hrg, hrf, hrs⟩ := hr
      simp [go_sem] at hD
      have hL1 : L 1 = true := hLs { on := 1, ground := .data } (by simp) rfl
      have HI2 := Lib.hid (show ∀ e, CkI (w.heap.size + 1) v ids (updD L 2 true) e W from fun e => ⟨(fun h => hI.1 (by rwa [updD_ne (by decide)] at h)), (fun h => by rw [updD_self]), (fun _ => by rw [updD_ne (by decide)]; exact hL1)⟩)
      have HCC := Lib.hid hC
      clear hI hL hLs
      go_simp
      first | exact ⟨⟨HCC.out, trivial⟩, rfl, HI2.out _⟩ | exact ⟨⟨HCC.out, trivial⟩, HI2.out _⟩
    simp only [List.nil_append, List.cons_append]
    repeat (apply tameG_q rfl (CkI.other rfl rfl); (intro ρ W hC hr hD; (obtain ⟨hrc, hrg, hrf, hrs⟩ := hr); (simp [go_sem] at hD); go_simp; first | exact ⟨⟨hC, trivial⟩, rfl⟩ | exact rfl); simp only [List.nil_append, List.cons_append])
    apply tameG_w rfl (CmpV ids.length (noTwins ids)) (fun _ _ _ _ _ h => h)
    · intro ρ L W hC hr hI hL hLs hD
      obtain ⟨hrc, hrg, hrf, hrs⟩ := hr
      simp [go_sem] at hD
      have hL2 : L 2 = true := hLs { on := 2, ground := .guard } (by simp) rfl
      have HOW := Lib.hid (hI.1 hL)
      have HI2 := Lib.hid (show ∀ e W, CkI (w.heap.size + 1) v ids (updD L 4 true) e W from fun e W => ⟨(fun h => by rw [updD_self] at h; cases h), (fun _ => by rw [updD_ne (by decide)]; exact hL2), (fun h => by rw [updD_ne (by decide)]; rw [updD_ne (by decide)] at h; exact hI.2.2 h)⟩)
      have HCC := Lib.hid hC
      clear hI hL hLs
      go_simp
      refine (compact_any ids v (w.heap.size + 1) W (Nat.le_trans HZ.out HCC.out.size) HOW.out (by rw [HN.out]; exact HNL.out)).mono ?_
      rintro e w' ⟨⟨A', n', c', rfl, h1, h2⟩, hE⟩
      exact ⟨_, rfl, ⟨HCC.out.trans hE, trivial⟩, ⟨_, _, _, rfl, h1, h2⟩, HI2.out _ _⟩
    simp only [List.nil_append, List.cons_append]
    apply tameG_w rfl (CmpN ids.length (noTwins ids)) (fun _ _ _ _ _ h => h)
    · intro ρ L W hC hr hI hL hLs hD
      obtain ⟨hrc, hrg, hrf, hrs⟩ := hr
      simp [go_sem] at hD
      have HI2 := Lib.hid (show ∀ e u, CkI (w.heap.size + 1) v ids (updD L 5 true) (updD e 11 u) W from fun e u => CkI.other rfl rfl L e W u hI)
      have HCC := Lib.hid hC
      clear hI hL hLs
      obtain ⟨⟨A', n', c', h0, h1, h2⟩, h3⟩ := hD
      have H1 := Lib.hid h1; have H2 := Lib.hid h2
      clear h1 h2
      go_simp
      exact ⟨⟨HCC.out, trivial⟩, ⟨n', rfl, H1.out, H2.out⟩, HI2.out _ _⟩
    simp only [List.nil_append, List.cons_append]
    repeat (apply tameG_q rfl (CkI.other rfl rfl); (intro ρ W hC hr hD; (obtain ⟨hrc, hrg, hrf, hrs⟩ := hr); (simp [go_sem] at hD); go_simp; first | exact ⟨⟨hC, trivial⟩, rfl⟩ | exact rfl); simp only [List.nil_append, List.cons_append])
    apply tameG_w rfl (fun x _ => x = .bool (noTwins ids)) (fun _ _ _ _ _ h => h)
    · intro ρ L W hC hr hI hL hLs hD
      obtain ⟨hrc, hrg, hrf, hrs⟩ := hr
      simp [go_sem] at hD
      have HI2 := Lib.hid (show ∀ e u, CkI (w.heap.size + 1) v ids (updD L 9 true) (updD e 15 u) W from fun e u => CkI.other rfl rfl L e W u hI)
      have HCC := Lib.hid hC
      clear hI hL hLs
      obtain ⟨⟨n', h0, h1, h2⟩, h3, h4⟩ := hD
      have HQ := Lib.hid (show ((n' : Int) == (n : Int)) = noTwins ids by rw [← h2, HN.out, Bool.eq_iff_iff]; simp; omega)
      clear h1 h2
      go_simp
      rw [HQ.out]
      first | exact ⟨⟨HCC.out, trivial⟩, rfl, HI2.out _ _⟩ | exact ⟨⟨HCC.out, trivial⟩, HI2.out _ _⟩
    simp only [List.nil_append, List.cons_append]
    repeat (apply tameG_q rfl (CkI.other rfl rfl); (intro ρ W hC hr hD; (obtain ⟨hrc, hrg, hrf, hrs⟩ := hr); (simp [go_sem] at hD); go_simp; first | exact ⟨⟨hC, trivial⟩, rfl⟩ | exact rfl); simp only [List.nil_append, List.cons_append])
    refine tameG_end_put rfl rfl (fun ρ W hC hr hF => ?_)
    simp [go_sem] at hF
    simp only [putF, hF, List.set_cons_succ, List.set_cons_zero]
    clear hF hr
    have HBE := Lib.hid (show Ext w W from Below.trans HE.out (hC.mono (Nat.le_succ _)))
    clear hC
    go_wp2
    go_ret
    exact ⟨by rw [HD.out, HND.out]; rfl, HBE.out⟩

/-- The mill's table of checks, beside core's. -/
def TabM (w : World) : Prop := Tab w ∧ 0 < w.heap.size ∧ w.cell? ⟨0, 0, none⟩ = some (.func (.func 187) #[] #[]) ∧ w.cell? ⟨0, 1, none⟩ = some (.func (.func 188) #[] #[]) ∧ w.cell? ⟨0, 2, none⟩ = some (.func (.func 191) #[] #[]) ∧ w.cell? ⟨0, 3, none⟩ = some (.func (.func 194) #[] #[])
theorem TabM.ext {w w' : World} (h : TabM w) (e : Ext w w') : TabM w' := by
  obtain ⟨hT, h0, h1, h2, h3, h4⟩ := h
  exact ⟨hT.ext e, Nat.lt_of_lt_of_le h0 e.size, (e.cells.1 _ _ h0).trans h1, (e.cells.1 _ _ h0).trans h2, (e.cells.1 _ _ h0).trans h3, (e.cells.1 _ _ h0).trans h4⟩
theorem tabM_i0 (W : World) : Sem.run Tryz.prog (Instr.index 149 (.agg #[.func (.func 187) #[] #[], .func (.func 188) #[] #[], .func (.func 191) #[] #[], .func (.func 194) #[] #[]]) (.int .i64 0)) W = .ok (.agg #[.func (.func 187) #[] #[]]) W := by kernel_rfl
theorem tabM_i1 (W : World) : Sem.run Tryz.prog (Instr.index 149 (.agg #[.func (.func 187) #[] #[], .func (.func 188) #[] #[], .func (.func 191) #[] #[], .func (.func 194) #[] #[]]) (.int .i64 1)) W = .ok (.agg #[.func (.func 188) #[] #[]]) W := by kernel_rfl
theorem tabM_i2 (W : World) : Sem.run Tryz.prog (Instr.index 149 (.agg #[.func (.func 187) #[] #[], .func (.func 188) #[] #[], .func (.func 191) #[] #[], .func (.func 194) #[] #[]]) (.int .i64 2)) W = .ok (.agg #[.func (.func 191) #[] #[]]) W := by kernel_rfl
theorem tabM_i3 (W : World) : Sem.run Tryz.prog (Instr.index 149 (.agg #[.func (.func 187) #[] #[], .func (.func 188) #[] #[], .func (.func 191) #[] #[], .func (.func 194) #[] #[]]) (.int .i64 3)) W = .ok (.agg #[.func (.func 194) #[] #[]]) W := by kernel_rfl
set_option maxHeartbeats 1000000 in
theorem checkM_any (lots size : Int) (l : List Rc) (sv : Value) (w : World) (hT : TabM w) (hs : MlC w sv l) (hlen : l.length ≤ 1000) :
    Calls Tryz.prog 48 #[valM lots size sv] w fun e w' => e = .returned (.int .i64 (errB (checkM (mOf lots size l)) 90)) ∧ Ext w w' := by
  have i0 := tabM_i0
  have i1 := tabM_i1
  have i2 := tabM_i2
  have i3 := tabM_i3
  have HS := Lib.hid hs
  have HT := Lib.hid hT.1
  have HL := Lib.hid hlen
  obtain ⟨A, n, c, rfl, hn, hlc, hcm⟩ := hs.1.form
  obtain ⟨-, h0, t0, t1, t2, t3⟩ := hT
  generalize hM : mOf lots size l = M
  have HM := Lib.hid hM
  clear hs hlen hn hM
  go_enter Tryz.func48, Tryz.ntmps48
  go_wp2
  go_loopg [6] 4 (fun gg s wr => ∃ i : Int, s = .int .i64 i ∧ (i = 0 ∨ i = 1 ∨ i = 2 ∨ i = 3 ∨ i = 4) ∧ (4 - i).toNat ≤ gg ∧ Aside ((0 < i → ck0 M = true) ∧ (1 < i → ck1 M = true) ∧ (2 < i → ck2 M = true) ∧ (3 < i → ck3 M = true)) ∧
    Aside (Ext (w.alloc (.cells #[.int .i64 lots, .int .i64 size, .slice A n c] 24)) wr))
  case atStart => exact ⟨0, rfl, .inl rfl, by omega, ⟨by omega, by omega, by omega, by omega⟩, Ext.refl _⟩
  case round =>
    obtain ⟨i, rfl, hi, hg, CH, BW⟩ := hrel
    obtain ⟨hc, hf, hz, -⟩ := BW.out.use
    simp at hz
    have hz1 : w.heap.size < wr.heap.size := by omega
    have hE : Ext w wr := (Ext.al _ _).trans BW.out
    have HE := Lib.hid hE; clear hE
    have t0' := (HE.out.cells.1 _ 0 h0).trans t0
    rcases hi with rfl | rfl | rfl | rfl | rfl
    · go_wp2_with fail
      refine (f187_any lots size l _ _ (HS.out.1.ext (HE.out.trans (Ext.al _ _)))).mono ?_
      rintro e w' ⟨rfl, hb'⟩
      rw [HM.out]
      have E2 := Lib.hid ((BW.out.trans (Ext.al _ _)).trans hb'); clear hb'
      cases hq : ck0 M
      · have HQ := Lib.hid hq; clear hq
        go_wp2
        go_ret
        exact ⟨ret_int (by rw [show checkM M = false by unfold checkM; rw [HQ.out]; simp]; rfl), (Ext.al _ _).trans E2.out⟩
      · have HQ := Lib.hid hq; clear hq
        go_wp2
        go_roundg 3
        case measure => omega
        case rel => exact ⟨1, rfl, by omega, by omega, ⟨fun _ => HQ.out, by omega, by omega, by omega⟩, E2.out⟩
    · go_wp2_with fail
      refine (f188_any lots size l _ _ (HT.out.ext (HE.out.trans (Ext.al _ _))) (HS.out.ext (HE.out.trans (Ext.al _ _)))).mono ?_
      rintro e w' ⟨rfl, hb'⟩
      rw [HM.out]
      have E2 := Lib.hid ((BW.out.trans (Ext.al _ _)).trans hb'); clear hb'
      cases hq : ck1 M
      · have HQ := Lib.hid hq; clear hq
        go_wp2
        go_ret
        exact ⟨ret_int (by rw [show checkM M = false by unfold checkM; rw [HQ.out]; simp]; rfl), (Ext.al _ _).trans E2.out⟩
      · have HQ := Lib.hid hq; clear hq
        go_wp2
        go_roundg 2
        case measure => omega
        case rel => exact ⟨2, rfl, by omega, by omega, ⟨fun _ => CH.out.1 (by omega), fun _ => HQ.out, by omega, by omega⟩, E2.out⟩
    · go_wp2_with fail
      refine (f191_any lots size l _ _ (HS.out.1.ext (HE.out.trans (Ext.al _ _))) HL.out).mono ?_
      rintro e w' ⟨rfl, hb'⟩
      rw [HM.out]
      have E2 := Lib.hid ((BW.out.trans (Ext.al _ _)).trans hb'); clear hb'
      cases hq : ck2 M
      · have HQ := Lib.hid hq; clear hq
        go_wp2
        go_ret
        exact ⟨ret_int (by rw [show checkM M = false by unfold checkM; rw [HQ.out]; simp]; rfl), (Ext.al _ _).trans E2.out⟩
      · have HQ := Lib.hid hq; clear hq
        go_wp2
        go_roundg 1
        case measure => omega
        case rel => exact ⟨3, rfl, by omega, by omega, ⟨fun _ => CH.out.1 (by omega), fun _ => CH.out.2.1 (by omega), fun _ => HQ.out, by omega⟩, E2.out⟩
    · go_wp2_with fail
      refine (f194_any lots size l _ _ (HS.out.1.ext (HE.out.trans (Ext.al _ _)))).mono ?_
      rintro e w' ⟨rfl, hb'⟩
      rw [HM.out]
      have E2 := Lib.hid ((BW.out.trans (Ext.al _ _)).trans hb'); clear hb'
      cases hq : ck3 M
      · have HQ := Lib.hid hq; clear hq
        go_wp2
        go_ret
        exact ⟨ret_int (by rw [show checkM M = false by unfold checkM; rw [HQ.out]; simp]; rfl), (Ext.al _ _).trans E2.out⟩
      · have HQ := Lib.hid hq; clear hq
        go_wp2
        go_roundg 0
        case measure => omega
        case rel => exact ⟨4, rfl, by omega, by omega, ⟨fun _ => CH.out.1 (by omega), fun _ => CH.out.2.1 (by omega), fun _ => CH.out.2.2.1 (by omega), fun _ => HQ.out⟩, E2.out⟩
    · have HQ := Lib.hid (show checkM M = true by unfold checkM; rw [CH.out.1 (by omega), CH.out.2.1 (by omega), CH.out.2.2.1 (by omega), CH.out.2.2.2 (by omega)]; rfl)
      go_wp2
      go_ret
      exact ⟨ret_int (by rw [HQ.out]; rfl), HE.out⟩
end Go.Proofs.YtkpengeaolcjhaaGreatDoor
/- The reference's Mill, fits, Fit. -/
namespace Go.Proofs.YtkpengeaolcjhaaGreatDoor
open Go.RowKit Go.Shelf Go.Lib
set_option maxRecDepth 100000
set_option linter.unusedSimpArgs false

theorem withinM_any (n lo hi : Int) (w : World) : Calls Tryz.prog 92 #[.int .i64 n, .int .i64 lo, .int .i64 hi] w fun e w' => e = .returned (.bool (inB lo hi n)) ∧ w = w' := by
  go_enter Tryz.func92, Tryz.ntmps92
  go_wp2
  all_goals go_ret
  all_goals exact ⟨ret_bool (by unfold inB; first | (simp [*]; done) | (simp [*]; omega)), rfl⟩

theorem headR_of (lots size : Int) (l : List Rc) (n : Nat) (hn : n = l.length) : headR (mOf lots size l) = ((inB 1 3 lots && inB 2 4 size) && !decide (7 < (n : Int))) := by
  unfold headR; rw [hn]; simp
theorem cotsR_cons (last : Int) (x : Cot) (l : List Cot) : cotsR last (x :: l) = ((((valid x.b && !decide (x.b.id ≤ last)) && inB 1 60 x.len) && inB 1 200 x.str) && cotsR x.b.id l) := rfl
set_option maxHeartbeats 2000000 in
theorem refMill_any (lots size : Int) (l : List Rc) (sv : Value) (w : World) (hs : MlC w sv l) :
    Calls Tryz.prog 53 #[valM lots size sv] w fun e w' => e = .returned (.bool (millR (mOf lots size l))) ∧ Ext w w' := by
  have HS := Lib.hid hs
  obtain ⟨A, n, c, rfl, hn, hlc, hcm⟩ := hs.1.form
  have HR := Lib.hid (headR_of lots size l n hn.out)
  have HMM := Lib.hid (show millR (mOf lots size l) = (headR (mOf lots size l) && cotsR 0 (l.map (·.c))) from rfl)
  have HN := Lib.hid (show (l.map (·.c)).length = n by rw [List.length_map]; exact hn.out.symm)
  generalize hM : mOf lots size l = M
  rw [hM] at HR HMM
  clear hs hn hM
  go_enter Tryz.func53, Tryz.ntmps53
  go_wp2_with fail
  refine (withinM_any lots 1 3 _).mono ?_
  rintro e w' ⟨rfl, rfl⟩
  have HE := Lib.hid (Ext.al w (.cells #[.int .i64 lots, .int .i64 size, .slice A n c] 24))
  cases hA : inB 1 3 lots
  · have HA := Lib.hid hA; clear hA
    go_wp2
    go_ret
    exact ⟨ret_bool (by rw [HMM.out, HR.out, HA.out]; rfl), HE.out⟩
  have HA := Lib.hid hA; clear hA
  go_wp2_with fail
  refine (withinM_any size 2 4 _).mono ?_
  rintro e w' ⟨rfl, rfl⟩
  cases hB : inB 2 4 size
  · have HB := Lib.hid hB; clear hB
    go_wp2
    go_ret
    exact ⟨ret_bool (by rw [HMM.out, HR.out, HA.out, HB.out]; rfl), HE.out⟩
  have HB := Lib.hid hB; clear hB
  by_cases h7 : (7 : Int) < (n : Int)
  · have HQ := Lib.hid (show millR M = false by rw [HMM.out, HR.out, HA.out, HB.out, decide_eq_true h7]; rfl)
    go_wp2
    go_ret
    exact ⟨ret_bool (HQ.out.symm), HE.out⟩
  have HQ := Lib.hid (show millR M = cotsR 0 (l.map (·.c)) by rw [HMM.out, HR.out, HA.out, HB.out, decide_eq_false h7]; rfl)
  have hn7 : n ≤ 7 := by omega
  go_wp2
  go_loopg [3, 25] n (fun gg s3 s25 wr => ∃ (kk : Nat) (last : Int), kk ≤ n ∧ n - kk ≤ gg ∧ s3 = .int .i64 last ∧ s25 = .int .i64 (kk : Int) ∧ Aside (cotsR 0 (l.map (·.c)) = cotsR last ((l.map (·.c)).drop kk)) ∧ Aside (Ext w wr))
  case atStart => exact ⟨0, 0, by omega, by omega, rfl, by simp, by show _ = _; rw [List.drop_zero], HE.out⟩
  case round =>
    obtain ⟨kk, last, hkk, hgg, rfl, rfl, HC, HW⟩ := hrel
    by_cases hlt : kk < n
    · have hltz : (kk : Int) < (n : Int) := by omega
      obtain ⟨b, off, x, rfl, hx, hb, hcell⟩ := HS.out.1.at_ hlt
      obtain ⟨c0, c1, c2, c3, c4, c5, c6, c7⟩ := SlC.cells hcell HW.out
      have HX := Lib.hid (HS.out.2 x (List.mem_of_getElem? hx))
      have HD := Lib.hid (show (l.map (·.c)).drop kk = x.c :: (l.map (·.c)).drop (kk + 1) from drop_at (by rw [List.getElem?_map, hx]; rfl))
      have HWE := Lib.hid (HW.out.trans (Ext.al wr (.cells #[.int .i64 x.c.b.id, .int .i64 x.c.b.layers, .int .i64 x.c.b.dry.lo, .int .i64 x.c.b.dry.hi, .slice x.da x.dn x.dc, .slice x.wa x.wn x.wc, .int .i64 x.c.len, .int .i64 x.c.str] 63)))
      clear hcell hx
      go_wp2_with fail
      refine (refBale_v x.c.b _ _ _ (HX.out.1.ext HWE.out) (HX.out.2.ext HWE.out)).mono ?_
      rintro e w2 ⟨rfl, hE⟩
      have HB2 := Lib.hid ((Blk.new wr 63 #[.int .i64 x.c.b.id, .int .i64 x.c.b.layers, .int .i64 x.c.b.dry.lo, .int .i64 x.c.b.dry.hi, .slice x.da x.dn x.dc, .slice x.wa x.wn x.wc, .int .i64 x.c.len, .int .i64 x.c.str]).ext hE)
      have HE2 := Lib.hid (HWE.out.trans hE)
      have b0 := HB2.out.cell 0
      have b6 := HB2.out.cell 6
      have b7 := HB2.out.cell 7
      have bf := HB2.out.frozen
      have bl := HB2.out.lt
      simp at b0 b6 b7
      clear hE c0 c1 c2 c3 c4 c5 c6 c7
      cases hv : valid x.c.b
      · have HV := Lib.hid hv; clear hv
        go_wp2
        go_ret
        exact ⟨ret_bool (by rw [HQ.out, HC.out, HD.out, cotsR_cons, HV.out]; rfl), HE2.out⟩
      have HV := Lib.hid hv; clear hv
      by_cases hid : x.c.b.id ≤ last
      · have HI := Lib.hid (show decide (x.c.b.id ≤ last) = true from decide_eq_true hid)
        go_wp2
        go_ret
        exact ⟨ret_bool (by rw [HQ.out, HC.out, HD.out, cotsR_cons, HV.out, HI.out]; rfl), HE2.out⟩
      have HI := Lib.hid (show decide (x.c.b.id ≤ last) = false from decide_eq_false hid)
      go_wp2_with fail
      refine (withinM_any x.c.len 1 60 _).mono ?_
      rintro e w' ⟨rfl, rfl⟩
      cases h1 : inB 1 60 x.c.len
      · have H1 := Lib.hid h1; clear h1
        go_wp2
        go_ret
        exact ⟨ret_bool (by rw [HQ.out, HC.out, HD.out, cotsR_cons, HV.out, HI.out, H1.out]; rfl), HE2.out⟩
      have H1 := Lib.hid h1; clear h1
      go_wp2_with fail
      refine (withinM_any x.c.str 1 200 _).mono ?_
      rintro e w' ⟨rfl, rfl⟩
      cases h2 : inB 1 200 x.c.str
      · have H2 := Lib.hid h2; clear h2
        go_wp2
        go_ret
        exact ⟨ret_bool (by rw [HQ.out, HC.out, HD.out, cotsR_cons, HV.out, HI.out, H1.out, H2.out]; rfl), HE2.out⟩
      have H2 := Lib.hid h2; clear h2
      have HC2 := Lib.hid (show cotsR 0 (l.map (·.c)) = cotsR x.c.b.id ((l.map (·.c)).drop (kk + 1)) by rw [HC.out, HD.out, cotsR_cons, HV.out, HI.out, H1.out, H2.out]; rfl)
      go_wp2
      go_roundg (n - (kk + 1))
      case measure => omega
      case rel => exact ⟨kk + 1, x.c.b.id, by omega, by omega, rfl, by simp, HC2.out, HE2.out⟩
    · have HD := Lib.hid (show (l.map (·.c)).drop kk = [] from List.drop_of_length_le (by have := HN.out; omega))
      go_wp2
      go_ret
      exact ⟨ret_bool (by rw [HQ.out, HC.out, HD.out]; rfl), HW.out⟩

theorem info4x : (Tryz.prog.info? 4).map (fun i => (i.zero, i.size, i.bytes)) = some (some (.bool false), 1, 1) := by kernel_rfl
abbrev encBo (b : Bool) : List Value := [.bool b]
abbrev SlBo (w : World) (v : Value) (l : List Bool) : Prop := Sl encBo 1 w v l
theorem encBo_one (x : Bool) : ∀ u ∈ encBo x, u.oneCell' = true := by
  intro u hu
  simp at hu
  subst hu
  rfl
theorem SlBo.cell {w W : World} {b off k : Nat} {x : Bool} (h : ∀ W, Ext w W → ∀ j u, (encBo x)[j]? = some u → W.cell? ⟨b, off + k * 1 + j, none⟩ = some u) (hW : Ext w W) : W.cell? ⟨b, off + k, none⟩ = some (.bool x) := by
  simpa using h W hW 0 _ rfl
set_option maxHeartbeats 2000000 in
theorem fits_any (lots size : Int) (l : List Rc) (sv : Value) (w : World) (hs : MlC w sv l) (hlen : l.length ≤ 1000) :
    Calls Tryz.prog 54 #[valM lots size sv] w fun e w' => (∃ v, e = .returned v ∧ Own encBo 4 1 w' w.heap.size v (fitL (mOf lots size l))) ∧ Ext w w' := by
  have HS := Lib.hid hs
  obtain ⟨A, n, c, rfl, hn, hlc, hcm⟩ := hs.1.form
  have HF := Lib.hid (show fitL (mOf lots size l) = l.map (fun r => fitB r.c) by unfold fitL; rw [List.map_map]; rfl)
  rw [HF.out]
  have HL := Lib.hid (show l.length = n from hn.out.symm)
  have hnb : n ≤ 1000 := by have := hn.out; omega
  clear hs hn hlen HF
  go_enter Tryz.func54, Tryz.ntmps54
  go_wp2
  go_loopg [3, 11] n (fun gg s3 s11 wr => ∃ kk : Nat, kk ≤ n ∧ n - kk ≤ gg ∧ s11 = .int .i64 (kk : Int) ∧ Aside (Own encBo 4 1 wr w.heap.size s3 ((l.take kk).map (fun r => fitB r.c))) ∧ Aside (Ext w wr))
  case atStart => exact ⟨0, by omega, by omega, by simp, Own.nil _ _, Ext.al _ _⟩
  case round =>
    obtain ⟨kk, hkk, hgg, rfl, OW, HW⟩ := hrel
    by_cases hlt : kk < n
    · have hltz : (kk : Int) < (n : Int) := by omega
      obtain ⟨b, off, x, rfl, hx, hb, hcell⟩ := HS.out.1.at_ hlt
      obtain ⟨c0, c1, c2, c3, c4, c5, c6, c7⟩ := SlC.cells hcell HW.out
      have HX := Lib.hid (HS.out.2 x (List.mem_of_getElem? hx))
      have HT := Lib.hid (show (l.take (kk + 1)).map (fun r => fitB r.c) = (l.take kk).map (fun r => fitB r.c) ++ [fitB x.c] by rw [List.take_add_one, hx, List.map_append]; rfl)
      have HLN := Lib.hid (show ((l.take kk).map (fun r => fitB r.c)).length = kk by have := HL.out; rw [List.length_map, List.length_take]; omega)
      generalize (l.take kk).map (fun r => fitB r.c) = L0 at *
      have HWE := Lib.hid (HW.out.trans (Ext.al wr (.cells #[.int .i64 x.c.b.id, .int .i64 x.c.b.layers, .int .i64 x.c.b.dry.lo, .int .i64 x.c.b.dry.hi, .slice x.da x.dn x.dc, .slice x.wa x.wn x.wc, .int .i64 x.c.len, .int .i64 x.c.str] 63)))
      have OW2 := Lib.hid (OW.out.alloc (.cells #[.int .i64 x.c.b.id, .int .i64 x.c.b.layers, .int .i64 x.c.b.dry.lo, .int .i64 x.c.b.dry.hi, .slice x.da x.dn x.dc, .slice x.wa x.wn x.wc, .int .i64 x.c.len, .int .i64 x.c.str] 63))
      clear hcell hx
      go_wp2_with fail
      refine (refKind_any x.c.b 1 _ _ _ (HX.out.1.ext HWE.out) (HX.out.2.ext HWE.out)).mono ?_
      rintro e w2 ⟨rfl, hE⟩
      have HE2 := Lib.hid (HWE.out.trans hE)
      have OW3 := Lib.hid (OW2.out.ext hE)
      have HFB := Lib.hid (show fitB x.c = (decide (askE x.c.b (inB 1 4 1) 32 = 0) && decide (kindB x.c.b 1 = 2)) from rfl)
      generalize askE x.c.b (inB 1 4 1) 32 = E at *
      generalize kindB x.c.b 1 = K at *
      clear hE c0 c1 c2 c3 c4 c5 c6 c7 OW OW2
      have HBB := Lib.hid (show ((E == 0) && (K == 2)) = fitB x.c by rw [HFB.out]; rfl)
      have HLB := Lib.hid (show L0.length < 100000000000 by have := HLN.out; omega)
      by_cases hE0 : E = 0
      · subst hE0
        by_cases hK2 : K = 2
        · subst hK2
          have HB1 := Lib.hid (show fitB x.c = true from HFB.out)
          go_wp2_with (at_builtin; refine wpList_app encBo 46 4 1 _ 1 Tryz.underlying46 info4x rfl (by decide) (by decide) (fun _ => rfl) encBo_one rfl (.tmp 21) (.tmp 28) rfl w.heap.size _ L0 rfl (OW3.out.alloc _) w2.heap.size 1 true rfl (cells1 (by simp [go_sem])) HLB.out (by have := HE2.out.size; simp; omega) ?_)
          intro g cap w' hown hg2 hbel _
          have hlr := HLN.out
          rw [hlr, ← HB1.out, ← HT.out] at hown
          have HO := Lib.hid hown
          have HB := Lib.hid (show Ext w w' from Below.trans (HE2.out.alloc _) hbel)
          clear hown hbel
          go_wp2
          go_roundg (n - (kk + 1))
          case measure => omega
          case rel => exact ⟨kk + 1, by omega, by omega, by simp, by rw [hlr]; exact HO.out, HB.out⟩
        · have hKb : (K == 2) = false := by simpa using hK2
          have HB1 := Lib.hid (show fitB x.c = false by rw [← HBB.out, hKb]; rfl)
          go_wp2_with (at_builtin; refine wpList_app encBo 46 4 1 _ 1 Tryz.underlying46 info4x rfl (by decide) (by decide) (fun _ => rfl) encBo_one rfl (.tmp 21) (.tmp 28) rfl w.heap.size _ L0 rfl (OW3.out.alloc _) w2.heap.size 1 false rfl (cells1 (by simp [go_sem])) HLB.out (by have := HE2.out.size; simp; omega) ?_)
          intro g cap w' hown hg2 hbel _
          have hlr := HLN.out
          rw [hlr, ← HB1.out, ← HT.out] at hown
          have HO := Lib.hid hown
          have HB := Lib.hid (show Ext w w' from Below.trans (HE2.out.alloc _) hbel)
          clear hown hbel
          go_wp2
          go_roundg (n - (kk + 1))
          case measure => omega
          case rel => exact ⟨kk + 1, by omega, by omega, by simp, by rw [hlr]; exact HO.out, HB.out⟩
      · have hEb : (E == 0) = false := by simpa using hE0
        have HB1 := Lib.hid (show fitB x.c = false by rw [← HBB.out, hEb]; rfl)
        go_wp2_with (at_builtin; refine wpList_app encBo 46 4 1 _ 1 Tryz.underlying46 info4x rfl (by decide) (by decide) (fun _ => rfl) encBo_one rfl (.tmp 21) (.tmp 28) rfl w.heap.size _ L0 rfl (OW3.out.alloc _) w2.heap.size 1 false rfl (cells1 (by simp [go_sem])) HLB.out (by have := HE2.out.size; simp; omega) ?_)
        intro g cap w' hown hg2 hbel _
        have hlr := HLN.out
        rw [hlr, ← HB1.out, ← HT.out] at hown
        have HO := Lib.hid hown
        have HB := Lib.hid (show Ext w w' from Below.trans (HE2.out.alloc _) hbel)
        clear hown hbel
        go_wp2
        go_roundg (n - (kk + 1))
        case measure => omega
        case rel => exact ⟨kk + 1, by omega, by omega, by simp, by rw [hlr]; exact HO.out, HB.out⟩
    · have HE := Lib.hid (show kk = n by omega)
      go_wp2
      go_ret
      exact ⟨⟨_, rfl, by have := OW.out; rwa [List.take_of_length_le (by have := HE.out; have := HL.out; omega)] at this⟩, HW.out⟩

def fitIds (l : List Cot) : List Int := (l.filter fitB).map (·.b.id)
def fitR (m : Mll) : List Int := if checkM m then fitIds m.cots else []
theorem fitR_no {m : Mll} (h : checkM m = false) : fitR m = [] := by unfold fitR; rw [h]; rfl
theorem fitR_yes {m : Mll} (h : checkM m = true) : fitR m = fitIds m.cots := by unfold fitR; rw [h]; rfl
theorem idsL_cons (x : Cot) (l : List Cot) : fitIds (l ++ [x]) = fitIds l ++ (if fitB x then [x.b.id] else []) := by
  unfold fitIds
  rw [List.filter_append, List.map_append]
  congr 1
  by_cases h : fitB x = true
  · simp [h]
  · simp [h]
end Go.Proofs.YtkpengeaolcjhaaGreatDoor
/- The reference's of: how uneven a plan is. -/
namespace Go.Proofs.YtkpengeaolcjhaaGreatDoor
open Go.RowKit Go.Shelf Go.Lib
set_option maxRecDepth 100000
set_option linter.unusedSimpArgs false

abbrev set2 (W : World) (g : Nat) (y0 y1 : Value) : World := (W.setCell ⟨g, 0, none⟩ y0).setCell ⟨g, 1, none⟩ y1
theorem Blk.set2 {W : World} {g : Nat} {t : TypeId} {x0 x1 : Value} (h : Blk W g t #[x0, x1]) (y0 y1 : Value) : Blk (set2 W g y0 y1) g t #[y0, y1] := by
  have := (h.set_ 0 y0).set_ 1 y1
  simpa using this
abbrev valU (u : Int × Int) : Value := .agg #[.int .i64 u.1, .int .i64 u.2]
theorem lotL_snoc {p v : List Int} (h : p.length = v.length) (a x lot : Int) : lotL (p ++ [a]) (v ++ [x]) lot = lotL p v lot ++ (if a = lot then [x] else []) := by
  unfold lotL
  rw [List.zip_append h, List.filter_append, List.map_append]
  congr 1
  by_cases e : a = lot
  · subst e; simp
  · simp [e]
def spanTo (plan vals : List Int) (lot : Int) (k : Nat) : Int × Int := spanR (lotL (plan.take k) (vals.take k) lot)
theorem spanTo_succ {plan vals : List Int} {k : Nat} {a x : Int} (ha : plan[k]? = some a) (hx : vals[k]? = some x) (lot : Int) :
    spanTo plan vals lot (k + 1) = if a = lot then (min (spanTo plan vals lot k).1 x, max (spanTo plan vals lot k).2 x) else spanTo plan vals lot k := by
  unfold spanTo
  have h1 := (List.getElem?_eq_some_iff.1 ha).1
  have h2 := (List.getElem?_eq_some_iff.1 hx).1
  rw [List.take_add_one, ha, List.take_add_one, hx]
  show spanR (lotL (plan.take k ++ [a]) (vals.take k ++ [x]) lot) = _
  rw [lotL_snoc (by rw [List.length_take, List.length_take]; omega)]
  by_cases e : a = lot
  · rw [if_pos e, if_pos e]; unfold spanR; rw [List.foldl_append]; rfl
  · rw [if_neg e, if_neg e, List.append_nil]
theorem spanTo_zero (plan vals : List Int) (lot : Int) : spanTo plan vals lot 0 = (999, 0) := rfl
theorem spanTo_full {plan vals : List Int} (lot : Int) {k : Nat} (h1 : plan.length ≤ k) (h2 : vals.length ≤ k) : spanTo plan vals lot k = spanR (lotL plan vals lot) := by
  unfold spanTo
  rw [List.take_of_length_le h1, List.take_of_length_le h2]
theorem span_bd : ∀ (l : List Int) (s : Int × Int), (∀ x ∈ l, 0 ≤ x ∧ x ≤ 999) → 0 ≤ s.1 ∧ s.1 ≤ 999 ∧ 0 ≤ s.2 ∧ s.2 ≤ 999 →
    let r := l.foldl (fun (s : Int × Int) x => (min s.1 x, max s.2 x)) s; 0 ≤ r.1 ∧ r.1 ≤ 999 ∧ 0 ≤ r.2 ∧ r.2 ≤ 999
  | [], _, _, h => h
  | x :: l, s, hx, h => by
    have := hx x (by simp)
    exact span_bd l _ (fun y hy => hx y (by simp [hy])) (by dsimp only; omega)
theorem spanTo_bd {plan vals : List Int} (hv : ∀ x ∈ vals, 0 ≤ x ∧ x ≤ 999) (lot : Int) (k : Nat) : 0 ≤ (spanTo plan vals lot k).1 ∧ (spanTo plan vals lot k).1 ≤ 999 ∧ 0 ≤ (spanTo plan vals lot k).2 ∧ (spanTo plan vals lot k).2 ≤ 999 :=
  span_bd _ (999, 0) (fun x hx => hv x (List.mem_of_mem_take (lotL_mem hx))) ⟨by decide, by decide, by decide, by decide⟩
def evenStep (m : Mll) (plan : List Int) (u : Int × Int) (i : Nat) : Int × Int := (max u.1 ((spanR (lotL plan (lensL m) ((i : Int) + 1))).2 - (spanR (lotL plan (lensL m) ((i : Int) + 1))).1), max u.2 ((spanR (lotL plan (strsL m) ((i : Int) + 1))).2 - (spanR (lotL plan (strsL m) ((i : Int) + 1))).1))
def evenTo (m : Mll) (plan : List Int) (k : Nat) : Int × Int := (List.range k).foldl (evenStep m plan) (0, 0)
theorem evenTo_succ (m : Mll) (plan : List Int) (k : Nat) : evenTo m plan (k + 1) = evenStep m plan (evenTo m plan k) k := by
  unfold evenTo
  rw [List.range_succ, List.foldl_append]
  rfl
theorem evenTo_full (m : Mll) (plan : List Int) : evenTo m plan m.lots.toNat = evenR m plan := rfl
theorem evenTo_bd {m : Mll} (hm : Mok m) (plan : List Int) : ∀ k, 0 ≤ (evenTo m plan k).1 ∧ (evenTo m plan k).1 ≤ 999 ∧ 0 ≤ (evenTo m plan k).2 ∧ (evenTo m plan k).2 ≤ 999
  | 0 => ⟨Int.le_refl _, by show (0 : Int) ≤ 999; decide, Int.le_refl _, by show (0 : Int) ≤ 999; decide⟩
  | k + 1 => by
    have ih := evenTo_bd hm plan k
    have h1 := span_bd (lotL plan (lensL m) ((k : Int) + 1)) (999, 0) (fun x hx => by
      have := lotL_mem hx
      unfold lensL at this
      rw [List.mem_map] at this
      obtain ⟨y, hy, rfl⟩ := this
      have := hm.len y hy; omega) (by decide)
    have h2 := span_bd (lotL plan (strsL m) ((k : Int) + 1)) (999, 0) (fun x hx => by
      have := lotL_mem hx
      unfold strsL at this
      rw [List.mem_map] at this
      obtain ⟨y, hy, rfl⟩ := this
      have := hm.str y hy; omega) (by decide)
    rw [evenTo_succ]
    unfold evenStep spanR
    dsimp only at h1 h2 ⊢
    omega

set_option maxHeartbeats 4000000 in
theorem refOf_any (lots size : Int) (l : List Rc) (plan : List Int) (sv pv : Value) (w : World) (hm : Mok (mOf lots size l)) (hs : SlC w sv l) (hp : SlI w pv plan) (hpl : plan.length = l.length) :
    Calls Tryz.prog 132 #[valM lots size sv, pv] w fun e w' => e = .returned (valU (evenR (mOf lots size l) plan)) ∧ Ext w w' := by
  have HS := Lib.hid hs; have HP := Lib.hid hp; have HM := Lib.hid hm
  obtain ⟨A, n, c, rfl, hn, hlc, hcm⟩ := hs.form
  obtain ⟨Ap, np, cp, rfl, hnp, hlp, hcp⟩ := hp.form
  have HL := Lib.hid (show l.length = n from hn.out.symm)
  obtain rfl : np = n := by have := hn.out; have := hnp.out; omega
  have HPL := Lib.hid (show plan.length = np from hnp.out.symm)
  obtain ⟨lt, hlt⟩ : ∃ lt : Nat, lots = (lt : Int) := ⟨lots.toNat, by have := hm.l1; show lots = _; have h : 1 ≤ lots := this; omega⟩
  subst hlt
  have hl1 : 1 ≤ lt := by have h : 1 ≤ (lt : Int) := hm.l1; omega
  have hl3 : lt ≤ 3 := by have h : (lt : Int) ≤ 3 := hm.l3; omega
  have hn7 : np ≤ 7 := by have h := hm.n7; simp at h; have := HL.out; omega
  have HEF := Lib.hid (show evenTo (mOf lt size l) plan lt = evenR (mOf lt size l) plan from rfl)
  have HBD := Lib.hid (evenTo_bd hm plan)
  have HLN := Lib.hid (show lensL (mOf lt size l) = l.map (·.c.len) by unfold lensL; rw [List.map_map]; rfl)
  have HST := Lib.hid (show strsL (mOf lt size l) = l.map (·.c.str) by unfold strsL; rw [List.map_map]; rfl)
  have HSL := Lib.hid (show ∀ lot k, 0 ≤ (spanTo plan (l.map (·.c.len)) lot k).1 ∧ (spanTo plan (l.map (·.c.len)) lot k).1 ≤ 999 ∧ 0 ≤ (spanTo plan (l.map (·.c.len)) lot k).2 ∧ (spanTo plan (l.map (·.c.len)) lot k).2 ≤ 999 from fun lot k => spanTo_bd (fun x hx => by
    rw [List.mem_map] at hx
    obtain ⟨y, hy, rfl⟩ := hx
    have := hm.len y.c (List.mem_map_of_mem hy); omega) lot k)
  have HSS := Lib.hid (show ∀ lot k, 0 ≤ (spanTo plan (l.map (·.c.str)) lot k).1 ∧ (spanTo plan (l.map (·.c.str)) lot k).1 ≤ 999 ∧ 0 ≤ (spanTo plan (l.map (·.c.str)) lot k).2 ∧ (spanTo plan (l.map (·.c.str)) lot k).2 ≤ 999 from fun lot k => spanTo_bd (fun x hx => by
    rw [List.mem_map] at hx
    obtain ⟨y, hy, rfl⟩ := hx
    have := hm.str y.c (List.mem_map_of_mem hy); omega) lot k)
  generalize hMM : mOf lt size l = M at *
  clear hs hp hm hn hnp hpl
  go_enter Tryz.func132, Tryz.ntmps132
  go_wp2
  generalize hW3 : (((w.alloc (.cells #[.int .i64 (lt : Int), .int .i64 size, .slice A np c] 24)).alloc (.cells #[.int .i64 0, .int .i64 0] 109)).alloc (.cells #[.int .i64 0, .int .i64 0] 109)) = w3
  have B0 := Lib.hid (show Blk w3 w.heap.size 24 #[.int .i64 (lt : Int), .int .i64 size, .slice A np c] from hW3 ▸ ((Blk.new _ _ _).alloc _).alloc _)
  have B1 := Lib.hid (show Blk w3 (w.heap.size + 1) 109 #[.int .i64 0, .int .i64 0] from hW3 ▸ (Blk.at_ (by simp)).alloc _)
  have B2 := Lib.hid (show Blk w3 (w.heap.size + 1 + 1) 109 #[.int .i64 (evenTo M plan 0).1, .int .i64 (evenTo M plan 0).2] from hW3 ▸ (Blk.at_ (by simp)))
  have E3 := Lib.hid (show Ext w w3 from hW3 ▸ ((Ext.al _ _).alloc _).alloc _)
  clear hW3
  go_loopg [6] lt (fun gg s6 wr => ∃ i : Nat, s6 = .int .i64 ((i : Int) + 1) ∧ i ≤ lt ∧ lt - i ≤ gg ∧ Aside (Blk wr w.heap.size 24 #[.int .i64 (lt : Int), .int .i64 size, .slice A np c]) ∧ Aside (Blk wr (w.heap.size + 1) 109 #[.int .i64 0, .int .i64 0]) ∧ Aside (Blk wr (w.heap.size + 1 + 1) 109 #[.int .i64 (evenTo M plan i).1, .int .i64 (evenTo M plan i).2]) ∧ Aside (Ext w wr))
  case atStart => exact ⟨0, by simp, by omega, by omega, B0.out, B1.out, B2.out, E3.out⟩
  case round =>
    obtain ⟨i, rfl, hi, hgg, K0, K1, K2, KE⟩ := hrel
    obtain ⟨b0, b1, b2, bf, bl⟩ := K0.out.c3
    clear B0 B1 B2 E3
    by_cases hil : i < lt
    · have hilz : (i : Int) + 1 ≤ (lt : Int) := by omega
      go_wp2
      obtain ⟨wo, hwo⟩ : ∃ wo, wo = wr := ⟨_, rfl⟩
      subst hwo
      have hwo := K2.out.lt
      have G0 := Lib.hid ((K0.out.alloc (.cells #[.int .i64 999, .int .i64 0] 57)).alloc (.cells #[.int .i64 999, .int .i64 0] 57))
      have G1 := Lib.hid ((K1.out.alloc (.cells #[.int .i64 999, .int .i64 0] 57)).alloc (.cells #[.int .i64 999, .int .i64 0] 57))
      have G2 := Lib.hid ((K2.out.alloc (.cells #[.int .i64 999, .int .i64 0] 57)).alloc (.cells #[.int .i64 999, .int .i64 0] 57))
      have G3 := Lib.hid ((Blk.new wo 57 #[.int .i64 999, .int .i64 0]).alloc (.cells #[.int .i64 999, .int .i64 0] 57))
      have G4 := Lib.hid (show Blk ((wo.alloc (.cells #[.int .i64 999, .int .i64 0] 57)).alloc (.cells #[.int .i64 999, .int .i64 0] 57)) (wo.heap.size + 1) 57 #[.int .i64 999, .int .i64 0] from Blk.at_ (by simp))
      have GE := Lib.hid (((KE.out.alloc (.cells #[.int .i64 999, .int .i64 0] 57)).alloc (.cells #[.int .i64 999, .int .i64 0] 57)))
      clear b0 b1 b2 bf bl
      go_loopg [22] np (fun gg s22 wr => ∃ k : Nat, s22 = .int .i64 (k : Int) ∧ k ≤ np ∧ np - k ≤ gg ∧ Aside (Blk wr w.heap.size 24 #[.int .i64 (lt : Int), .int .i64 size, .slice A np c]) ∧ Aside (Blk wr (w.heap.size + 1) 109 #[.int .i64 0, .int .i64 0]) ∧ Aside (Blk wr (w.heap.size + 1 + 1) 109 #[.int .i64 (evenTo M plan i).1, .int .i64 (evenTo M plan i).2]) ∧
        Aside (Blk wr wo.heap.size 57 #[.int .i64 (spanTo plan (l.map (·.c.len)) ((i : Int) + 1) k).1, .int .i64 (spanTo plan (l.map (·.c.len)) ((i : Int) + 1) k).2]) ∧ Aside (Blk wr (wo.heap.size + 1) 57 #[.int .i64 (spanTo plan (l.map (·.c.str)) ((i : Int) + 1) k).1, .int .i64 (spanTo plan (l.map (·.c.str)) ((i : Int) + 1) k).2]) ∧ Aside (Ext w wr))
      case atStart => exact ⟨0, by simp, by omega, by omega, G0.out, G1.out, G2.out, G3.out, G4.out, GE.out⟩
      case round =>
        obtain ⟨k, rfl, hk, hgk, L0, L1, L2, L3, L4, LE⟩ := hrel
        clear G0 G1 G2 G3 G4 GE K0 K1 K2 KE
        by_cases hkn : k < np
        · have hknz : (k : Int) < (np : Int) := by omega
          have hk0 : (0 : Int) ≤ (k : Int) := by omega
          obtain ⟨b, off, x, rfl, hx, hb, hcell⟩ := HS.out.at_ hkn
          obtain ⟨bp, offp, a, rfl, ha, hbp, hcellp⟩ := HP.out.at_ hkn
          have HX := Lib.hid hx; have HA := Lib.hid ha
          obtain ⟨c0, c1, c2, c3, c4, c5, c6, c7⟩ := SlC.cells hcell LE.out
          have q0 := SlI.cell hcellp LE.out
          have hs1 := spanTo_succ (vals := l.map (·.c.len)) ha (by rw [List.getElem?_map, hx]; rfl) ((i : Int) + 1)
          have hs2 := spanTo_succ (vals := l.map (·.c.str)) ha (by rw [List.getElem?_map, hx]; rfl) ((i : Int) + 1)
          clear hx ha hcell hcellp
          by_cases hai : a = (i : Int) + 1
          · have hae : (a == (i : Int) + 1) = true := by simpa using hai
            rw [if_pos hai] at hs1 hs2
            have H1 := Lib.hid hs1; have H2 := Lib.hid hs2
            clear hs1 hs2 hai
            obtain ⟨b0, b1, b2, bf, bl⟩ := L0.out.c3
            obtain ⟨d0, d1, df, dl⟩ := L3.out.c2
            obtain ⟨e0, e1, ef, el⟩ := L4.out.c2
            go_wp2
            have hl2 := L2.out.lt
            go_roundg (np - (k + 1))
            case measure => omega
            case rel => exact ⟨k + 1, by simp, by omega, by omega, ((((L0.out.far (by dsimp only; omega) _).far (by dsimp only; omega) _).far (by dsimp only; omega) _).far (by dsimp only; omega) _).alloc _, ((((L1.out.far (by dsimp only; omega) _).far (by dsimp only; omega) _).far (by dsimp only; omega) _).far (by dsimp only; omega) _).alloc _,
              ((((L2.out.far (by dsimp only; omega) _).far (by dsimp only; omega) _).far (by dsimp only; omega) _).far (by dsimp only; omega) _).alloc _, by rw [H1.out]; exact (((L3.out.set2 _ _).far (by dsimp only; omega) _).far (by dsimp only; omega) _).alloc _, by rw [H2.out]; exact (((L4.out.far (by dsimp only; omega) _).far (by dsimp only; omega) _).set2 _ _).alloc _,
              ((((LE.out.setCell (by dsimp only; omega) _).setCell (by dsimp only; omega) _).setCell (by dsimp only; omega) _).setCell (by dsimp only; omega) _).alloc _⟩
          · have hae : (a == (i : Int) + 1) = false := by simpa using hai
            rw [if_neg hai] at hs1 hs2
            have H1 := Lib.hid hs1; have H2 := Lib.hid hs2
            clear hs1 hs2
            go_wp2
            go_roundg (np - (k + 1))
            case measure => omega
            case rel => exact ⟨k + 1, by simp, by omega, by omega, L0.out, L1.out, L2.out, by rw [H1.out]; exact L3.out, by rw [H2.out]; exact L4.out, LE.out⟩
        · have hke : k = np := by omega
          subst hke
          have hb1 := HSL.out ((i : Int) + 1) k
          have hb2 := HSS.out ((i : Int) + 1) k
          have HU := Lib.hid (show evenTo M plan (i + 1) = (max (evenTo M plan i).1 ((spanTo plan (l.map (·.c.len)) ((i : Int) + 1) k).2 - (spanTo plan (l.map (·.c.len)) ((i : Int) + 1) k).1), max (evenTo M plan i).2 ((spanTo plan (l.map (·.c.str)) ((i : Int) + 1) k).2 - (spanTo plan (l.map (·.c.str)) ((i : Int) + 1) k).1)) by
            rw [evenTo_succ, spanTo_full _ (by have := HPL.out; omega) (by rw [List.length_map]; have := HL.out; omega), spanTo_full _ (by have := HPL.out; omega) (by rw [List.length_map]; have := HL.out; omega)]
            unfold evenStep
            rw [HLN.out, HST.out])
          have hw1 : IntKind.i64.wrap ((spanTo plan (l.map (·.c.len)) ((i : Int) + 1) k).2 - (spanTo plan (l.map (·.c.len)) ((i : Int) + 1) k).1) = (spanTo plan (l.map (·.c.len)) ((i : Int) + 1) k).2 - (spanTo plan (l.map (·.c.len)) ((i : Int) + 1) k).1 := by rw [IntKind.wrap_i64]; omega
          have hw2 : IntKind.i64.wrap ((spanTo plan (l.map (·.c.str)) ((i : Int) + 1) k).2 - (spanTo plan (l.map (·.c.str)) ((i : Int) + 1) k).1) = (spanTo plan (l.map (·.c.str)) ((i : Int) + 1) k).2 - (spanTo plan (l.map (·.c.str)) ((i : Int) + 1) k).1 := by rw [IntKind.wrap_i64]; omega
          have hw3 : IntKind.i64.wrap ((i : Int) + 1 + 1) = (i : Int) + 1 + 1 := by rw [IntKind.wrap_i64]; omega
          clear hb1 hb2
          obtain ⟨b0, b1, b2, bf, bl⟩ := L0.out.c3
          obtain ⟨d0, d1, df, dl⟩ := L3.out.c2
          obtain ⟨e0, e1, ef, el⟩ := L4.out.c2
          obtain ⟨o0, o1, of, ol⟩ := L2.out.c2
          go_wp2
          go_roundg (lt - (i + 1))
          case measure => omega
          case rel => exact ⟨i + 1, by simp, by omega, by omega, (L0.out.far (by dsimp only; omega) _).far (by dsimp only; omega) _, (L1.out.far (by dsimp only; omega) _).far (by dsimp only; omega) _, by rw [HU.out]; exact L2.out.set2 _ _, (LE.out.setCell (by dsimp only; omega) _).setCell (by dsimp only; omega) _⟩
    · have hie : i = lt := by omega
      subst hie
      obtain ⟨o0, o1, of, ol⟩ := K2.out.c2
      obtain ⟨r0, r1, rf, rl⟩ := K1.out.c2
      go_wp2
      refine ret_set2 K1.out fun W' ⟨b0, b1⟩ hW => ?_
      refine bodyPost_ret (v := valU (evenR M plan)) (by rw [← HEF.out]; simp [results, Tryz.results132, go_sem, b0, b1]) rfl ?_
      exact ⟨rfl, ext_grownP KE.out hW (by omega)⟩
theorem refLess_any (a b : Int × Int) (w : World) : Calls Tryz.prog 63 #[valU a, valU b] w fun e w' => e = .returned (.bool (lessU a b)) ∧ Ext w w' := by
  go_enter Tryz.func63, Tryz.ntmps63
  by_cases h1 : a.1 < b.1
  · go_wp2
    go_ret
    exact ⟨ret_bool (by unfold lessU; simp [h1]), (Ext.al _ _).trans (Ext.al _ _)⟩
  · by_cases h2 : a.1 = b.1
    · have h2b : (a.1 == b.1) = true := by simpa using h2
      go_wp2
      go_ret
      exact ⟨ret_bool (by unfold lessU; simp [h1, h2]), (Ext.al _ _).trans (Ext.al _ _)⟩
    · have h2b : (a.1 == b.1) = false := by simpa using h2
      go_wp2
      go_ret
      exact ⟨ret_bool (by unfold lessU; simp [h1, h2]), (Ext.al _ _).trans (Ext.al _ _)⟩
end Go.Proofs.YtkpengeaolcjhaaGreatDoor
/- The reference's SameInts, Great, SameCotton, Same, TwinCotton, Twin. -/
namespace Go.Proofs.YtkpengeaolcjhaaGreatDoor
open Go.RowKit Go.Shelf Go.Lib
set_option maxRecDepth 100000
set_option linter.unusedSimpArgs false

theorem sameIntsM_any (l : List Int) (v v' : Value) (w : World) (h : SlI w v l) (h' : SlI w v' l) :
    Calls Tryz.prog 20 #[v, v'] w fun e w' => e = .returned (.bool true) ∧ Ext w w' := by
  have HA := Lib.hid h
  have HB := Lib.hid h'
  obtain ⟨A, n, cp, rfl, hn, hlc, hcm⟩ := h.form
  obtain ⟨A2, n2, cp2, rfl, hn2, hlc2, hcm2⟩ := h'.form
  have hnn : n2 = n := by have := hn.out; have := hn2.out; omega
  subst hnn
  clear h h'
  go_enter Tryz.func20, Tryz.ntmps20
  go_wp2
  go_loopg [5] n2 (fun gg s wr => ∃ (k : Nat), k ≤ n2 ∧ n2 - k ≤ gg ∧ s = .int .i64 k ∧ Aside (Ext w wr))
  case atStart => exact ⟨0, by omega, by omega, rfl, Ext.refl _⟩
  case round =>
    obtain ⟨k, hk, hg, rfl, EW⟩ := hrel
    by_cases hlt : k < n2
    · have hjz : (k : Int) < (n2 : Int) := by omega
      obtain ⟨bb, off, x, rfl, hx, hb, hcell⟩ := HA.out.at_ hlt
      obtain ⟨bb', off', x', rfl, hx', hb', hcell'⟩ := HB.out.at_ hlt
      have hxx : x' = x := by rw [hx] at hx'; injection hx' with h; exact h.symm
      subst hxx
      have c0 := fun W (h : Ext wr W) => SlI.cell hcell (EW.out.trans h)
      have c1 := fun W (h : Ext wr W) => SlI.cell hcell' (EW.out.trans h)
      clear hx hx' hcell hcell'
      go_wp2
      refine wp_region_tame (fun W => Ext wr W) (fun W W' => Ext W W') (by kernel_rfl) 26 rfl (by decide +kernel) (Ext.refl _).drew ?_
      repeat (apply tame_q rfl; (intro ρ W hC hr hD; (obtain ⟨hrc, hrg, hrf, hrs⟩ := hr); (simp [go_sem] at hD); go_simp; first | exact ⟨⟨hC, Ext.refl _⟩, rfl⟩ | exact ⟨⟨hC, RS.refl _⟩, rfl⟩ | exact rfl); simp only [List.nil_append, List.cons_append])
      refine tame_end 26 rfl rfl (fun ρ W hC hr hF => ?_)
      obtain ⟨hrc, hrg, hrf, hrs⟩ := hr
      simp [go_sem] at hF
      apply frame_to
      · go_simp
        exact rfl
      clear hF hrs hrc hrg hrf
      have HC := Lib.hid hC; clear hC
      go_wp2
      go_roundg (n2 - (k + 1))
      case measure => omega
      case rel => exact ⟨k + 1, by omega, by omega, rfl, EW.out.trans HC.out⟩
    · go_wp2
      go_ret
      exact ⟨rfl, EW.out⟩

def greatM (l : List Rc) : Bool := decide (14 < (l.length : Int)) || l.any fun r => greatB r.c.b
set_option maxHeartbeats 1000000 in
theorem greatM_any (lots size : Int) (l : List Rc) (sv : Value) (w : World) (hs : MlC w sv l) :
    Calls Tryz.prog 12 #[valM lots size sv] w fun e w' => e = .returned (.bool (greatM l)) ∧ Ext w w' := by
  have HS := Lib.hid hs
  obtain ⟨A, n, c, rfl, hn, hlc, hcm⟩ := hs.1.form
  have HL := Lib.hid (show l.length = n from hn.out.symm)
  clear hs hn
  go_enter Tryz.func12, Tryz.ntmps12
  by_cases h14 : (14 : Int) < (n : Int)
  · have HQ := Lib.hid (show greatM l = true by unfold greatM; rw [HL.out, decide_eq_true h14]; rfl)
    go_wp2
    go_ret
    exact ⟨by rw [HQ.out]; rfl, Ext.al _ _⟩
  have HG := Lib.hid (show greatM l = l.any fun r => greatB r.c.b by unfold greatM; rw [HL.out, decide_eq_false h14]; rfl)
  go_wp2
  go_loopg [12] n (fun gg s12 wr => ∃ kk : Nat, kk ≤ n ∧ n - kk ≤ gg ∧ s12 = .int .i64 (kk : Int) ∧ Aside ((l.any fun r => greatB r.c.b) = (l.drop kk).any fun r => greatB r.c.b) ∧ Aside (Ext w wr))
  case atStart => exact ⟨0, by omega, by omega, by simp, by show _ = _; rw [List.drop_zero], Ext.al _ _⟩
  case round =>
    obtain ⟨kk, hkk, hgg, rfl, HA, HW⟩ := hrel
    by_cases hlt : kk < n
    · have hltz : (kk : Int) < (n : Int) := by omega
      obtain ⟨b, off, x, rfl, hx, hb, hcell⟩ := HS.out.1.at_ hlt
      obtain ⟨c0, c1, c2, c3, c4, c5, c6, c7⟩ := SlC.cells hcell HW.out
      have HX := Lib.hid (HS.out.2 x (List.mem_of_getElem? hx))
      have HD := Lib.hid (show ((l.drop kk).any fun r => greatB r.c.b) = (greatB x.c.b || (l.drop (kk + 1)).any fun r => greatB r.c.b) by rw [drop_at hx]; rfl)
      have HWE := Lib.hid (HW.out.trans (Ext.al wr (.cells #[.int .i64 x.c.b.id, .int .i64 x.c.b.layers, .int .i64 x.c.b.dry.lo, .int .i64 x.c.b.dry.hi, .slice x.da x.dn x.dc, .slice x.wa x.wn x.wc, .int .i64 x.c.len, .int .i64 x.c.str] 63)))
      clear hcell hx
      go_wp2_with fail
      refine (great_any x.c.b _ _ _ (HX.out.1.ext HWE.out) (HX.out.2.ext HWE.out)).mono ?_
      rintro e w2 ⟨rfl, hE⟩
      have HE2 := Lib.hid (HWE.out.trans hE)
      clear hE c0 c1 c2 c3 c4 c5 c6 c7
      cases hq : greatB x.c.b
      · have HQ := Lib.hid (show (l.any fun r => greatB r.c.b) = (l.drop (kk + 1)).any fun r => greatB r.c.b by rw [HA.out, HD.out, hq]; rfl)
        clear hq
        go_wp2
        go_roundg (n - (kk + 1))
        case measure => omega
        case rel => exact ⟨kk + 1, by omega, by omega, by simp, HQ.out, HE2.out⟩
      · have HQ := Lib.hid (show (l.any fun r => greatB r.c.b) = true by rw [HA.out, HD.out, hq]; rfl)
        clear hq
        go_wp2
        go_ret
        exact ⟨by rw [HG.out, HQ.out]; rfl, HE2.out⟩
    · have HQ := Lib.hid (show (l.any fun r => greatB r.c.b) = false by rw [HA.out, List.drop_of_length_le (by have := HL.out; omega)]; rfl)
      go_wp2
      go_ret
      exact ⟨by rw [HG.out, HQ.out]; rfl, HW.out⟩

theorem sameCotton_any (r r' : Rc) (w : World) (hc : r.c = r'.c) (hd : SlD w (.slice r.da r.dn r.dc) r.c.b.draws) (hw : SlW w (.slice r.wa r.wn r.wc) r.c.b.weighs) (hd' : SlD w (.slice r'.da r'.dn r'.dc) r'.c.b.draws) (hw' : SlW w (.slice r'.wa r'.wn r'.wc) r'.c.b.weighs) :
    Calls Tryz.prog 64 #[valC r, valC r'] w fun e w' => e = .returned (.bool true) ∧ Ext w w' := by
  have H1 := Lib.hid hd; have H2 := Lib.hid hw; have H3 := Lib.hid hd'; have H4 := Lib.hid hw'
  rw [← hc] at H3 H4
  obtain ⟨c', a1, a2, a3, a4, a5, a6⟩ := r'
  obtain rfl : r.c = c' := hc
  clear hd hw hd' hw'
  dsimp only at H3 H4 ⊢
  have HE := Lib.hid ((Ext.al w (.cells #[.int .i64 r.c.b.id, .int .i64 r.c.b.layers, .int .i64 r.c.b.dry.lo, .int .i64 r.c.b.dry.hi, .slice r.da r.dn r.dc, .slice r.wa r.wn r.wc, .int .i64 r.c.len, .int .i64 r.c.str] 63)).alloc (.cells #[.int .i64 r.c.b.id, .int .i64 r.c.b.layers, .int .i64 r.c.b.dry.lo, .int .i64 r.c.b.dry.hi, .slice a1 a2 a3, .slice a4 a5 a6, .int .i64 r.c.len, .int .i64 r.c.str] 63))
  go_enter Tryz.func64, Tryz.ntmps64
  go_wp2_with fail
  refine (same_any r.c.b _ _ _ _ _ (H1.out.ext HE.out) (H2.out.ext HE.out) (H3.out.ext HE.out) (H4.out.ext HE.out)).mono ?_
  rintro e w1 ⟨rfl, hE⟩
  have HE1 := Lib.hid (HE.out.trans hE)
  clear hE
  go_wp2
  go_ret
  exact ⟨rfl, HE1.out⟩
set_option maxHeartbeats 2000000 in
theorem sameM_any (lots size : Int) (l l' : List Rc) (sv sv' : Value) (w : World) (hc : l.map (·.c) = l'.map (·.c)) (hs : MlC w sv l) (hs' : MlC w sv' l') :
    Calls Tryz.prog 21 #[valM lots size sv, valM lots size sv'] w fun e w' => e = .returned (.bool true) ∧ Ext w w' := by
  have HS := Lib.hid hs; have HS' := Lib.hid hs'; have HC := Lib.hid hc
  obtain ⟨A, n, c, rfl, hn, hlc, hcm⟩ := hs.1.form
  obtain ⟨A', n', c', rfl, hn', hlc', hcm'⟩ := hs'.1.form
  obtain rfl : n' = n := by have h1 := hn.out; have h2 := hn'.out; have h3 := congrArg List.length hc; rw [List.length_map, List.length_map] at h3; omega
  clear hs hs' hc hn hn'
  go_enter Tryz.func21, Tryz.ntmps21
  go_wp2
  obtain ⟨w5, hw5⟩ : ∃ w5, w5 = (w.alloc (.cells #[.int .i64 lots, .int .i64 size, .slice A n' c] 24)).alloc (.cells #[.int .i64 lots, .int .i64 size, .slice A' n' c'] 24) := ⟨_, rfl⟩
  rw [← hw5]
  have B0 := Lib.hid (show Blk w5 w.heap.size 24 #[.int .i64 lots, .int .i64 size, .slice A n' c] from hw5 ▸ (Blk.new _ _ _).alloc _)
  have B1 := Lib.hid (show Blk w5 (w.heap.size + 1) 24 #[.int .i64 lots, .int .i64 size, .slice A' n' c'] from hw5 ▸ (Blk.at_ (by simp)))
  have E5 := Lib.hid (show Ext w w5 from hw5 ▸ (Ext.al _ _).alloc _)
  clear hw5
  go_loopg [5] n' (fun gg s wr => ∃ (k : Nat), k ≤ n' ∧ n' - k ≤ gg ∧ s = .int .i64 k ∧ Aside (Ext w5 wr))
  case atStart => exact ⟨0, by omega, by omega, rfl, Ext.refl _⟩
  case round =>
    obtain ⟨k, hk, hg, rfl, EW⟩ := hrel
    obtain ⟨b0, b1, b2, bf, bl⟩ := (B0.out.ext EW.out).c3
    by_cases hlt : k < n'
    · have hjz : (k : Int) < (n' : Int) := by omega
      obtain ⟨b, off, x, rfl, hx, hb, hcell⟩ := HS.out.1.at_ hlt
      obtain ⟨b', off', x', rfl, hx', hb', hcell'⟩ := HS'.out.1.at_ hlt
      have HXX := Lib.hid (show x.c = x'.c by
        have h1 : (l.map (·.c))[k]? = some x.c := by rw [List.getElem?_map, hx]; rfl
        rw [HC.out, List.getElem?_map, hx'] at h1
        injection h1 with h1; exact h1.symm)
      have HX := Lib.hid (HS.out.2 x (List.mem_of_getElem? hx))
      have HX' := Lib.hid (HS'.out.2 x' (List.mem_of_getElem? hx'))
      have EWW := Lib.hid (E5.out.trans EW.out)
      have v0 := fun W (h : Ext wr W) => ((B0.out.ext EW.out).ext h).c3.2.2.1
      have v1 := fun W (h : Ext wr W) => ((B1.out.ext EW.out).ext h).c3.2.2.1
      have p0 := fun W (h : Ext wr W) => (SlC.cells hcell (EWW.out.trans h)).1
      have p1 := fun W (h : Ext wr W) => (SlC.cells hcell (EWW.out.trans h)).2.1
      have p2 := fun W (h : Ext wr W) => (SlC.cells hcell (EWW.out.trans h)).2.2.1
      have p3 := fun W (h : Ext wr W) => (SlC.cells hcell (EWW.out.trans h)).2.2.2.1
      have p4 := fun W (h : Ext wr W) => (SlC.cells hcell (EWW.out.trans h)).2.2.2.2.1
      have p5 := fun W (h : Ext wr W) => (SlC.cells hcell (EWW.out.trans h)).2.2.2.2.2.1
      have p6 := fun W (h : Ext wr W) => (SlC.cells hcell (EWW.out.trans h)).2.2.2.2.2.2.1
      have p7 := fun W (h : Ext wr W) => (SlC.cells hcell (EWW.out.trans h)).2.2.2.2.2.2.2
      have q0 := fun W (h : Ext wr W) => (SlC.cells hcell' (EWW.out.trans h)).1
      have q1 := fun W (h : Ext wr W) => (SlC.cells hcell' (EWW.out.trans h)).2.1
      have q2 := fun W (h : Ext wr W) => (SlC.cells hcell' (EWW.out.trans h)).2.2.1
      have q3 := fun W (h : Ext wr W) => (SlC.cells hcell' (EWW.out.trans h)).2.2.2.1
      have q4 := fun W (h : Ext wr W) => (SlC.cells hcell' (EWW.out.trans h)).2.2.2.2.1
      have q5 := fun W (h : Ext wr W) => (SlC.cells hcell' (EWW.out.trans h)).2.2.2.2.2.1
      have q6 := fun W (h : Ext wr W) => (SlC.cells hcell' (EWW.out.trans h)).2.2.2.2.2.2.1
      have q7 := fun W (h : Ext wr W) => (SlC.cells hcell' (EWW.out.trans h)).2.2.2.2.2.2.2
      clear hx hx'
      go_wp2
      refine wp_region_tame (fun W => Ext wr W) (fun W W' => Ext W W') (by kernel_rfl) 46 rfl (by decide +kernel) (Ext.refl _).drew ?_
      repeat (apply tame_q rfl; (intro ρ W hC hr hD; (obtain ⟨hrc, hrg, hrf, hrs⟩ := hr); (simp [go_sem] at hD); go_simp; first | exact ⟨⟨hC, Ext.refl _⟩, rfl⟩ | exact ⟨⟨hC, RS.refl _⟩, rfl⟩ | exact rfl); simp only [List.nil_append, List.cons_append])
      apply tame_q rfl
      · intro ρ W hC hr hD
        obtain ⟨hrc, hrg, hrf, hrs⟩ := hr
        simp [go_sem] at hD
        go_simp
        refine (sameCotton_any x x' W HXX.out (HX.out.1.ext (EWW.out.trans hC)) (HX.out.2.ext (EWW.out.trans hC)) (HX'.out.1.ext (EWW.out.trans hC)) (HX'.out.2.ext (EWW.out.trans hC))).mono ?_
        rintro e w' ⟨rfl, hE⟩
        exact ⟨_, rfl, ⟨hC.trans hE, hE⟩, rfl⟩
      simp only [List.nil_append, List.cons_append]
      repeat (apply tame_q rfl; (intro ρ W hC hr hD; (obtain ⟨hrc, hrg, hrf, hrs⟩ := hr); (simp [go_sem] at hD); go_simp; first | exact ⟨⟨hC, Ext.refl _⟩, rfl⟩ | exact ⟨⟨hC, RS.refl _⟩, rfl⟩ | exact rfl); simp only [List.nil_append, List.cons_append])
      refine tame_end 46 rfl rfl (fun ρ W hC hr hF => ?_)
      obtain ⟨hrc, hrg, hrf, hrs⟩ := hr
      simp [go_sem] at hF
      apply frame_to
      · go_simp
        exact rfl
      clear hF hrs hrc hrg hrf
      have HCC := Lib.hid hC; clear hC v0 v1 p0 p1 p2 p3 p4 p5 p6 p7 q0 q1 q2 q3 q4 q5 q6 q7 hcell hcell'
      go_wp2
      go_roundg (n' - (k + 1))
      case measure => omega
      case rel => exact ⟨k + 1, by omega, by omega, rfl, EW.out.trans HCC.out⟩
    · go_wp2
      go_ret
      exact ⟨rfl, E5.out.trans EW.out⟩
end Go.Proofs.YtkpengeaolcjhaaGreatDoor
