/- mill.Put. -/
import Derived.Test.YtkpengeaolcjhaaGreatDoorPkMlBestCardP
import Derived.Test.YtkpengeaolcjhaaGreatDoorPkMlBestCardS
import Derived.Test.YtkpengeaolcjhaaGreatDoorPkMlBestCardQ
import Derived.Test.YtkpengeaolcjhaaGreatDoorPkMlBestCardR
import Derived.Test.YtkpengeaolcjhaaGreatDoorPkMlBestCardM
namespace Go.Proofs.YtkpengeaolcjhaaGreatDoor
open Go.RowKit Go.Shelf Go.Lib
set_option maxRecDepth 100000
set_option linter.unusedSimpArgs false

/-! The same sort, of the data alone. -/
def stopK (S : List Cot) (x : Cot) : Nat → Nat
  | 0 => 0
  | j + 1 => match S[j]? with
    | some y => if x.b.id < y.b.id then stopK S x j else j + 1
    | none => j + 1
def putK (S : List Cot) (x : Cot) (j : Nat) : List Cot := S.take j ++ x :: S.drop j
def sortK (l : List Cot) : Nat → List Cot
  | 0 => []
  | k + 1 => match l[k]? with
    | some x => putK (sortK l k) x (stopK (sortK l k) x k)
    | none => sortK l k
theorem stopC_map (S : List Rc) (x : Rc) : ∀ j, stopC S x j = stopK (S.map (·.c)) x.c j
  | 0 => rfl
  | j + 1 => by
    unfold stopC stopK
    rw [List.getElem?_map]
    cases S[j]? with
    | none => rfl
    | some y =>
      simp only [Option.map_some]
      split
      · exact stopC_map S x j
      · rfl
theorem sortC_map (l : List Rc) : ∀ k, (sortC l k).map (·.c) = sortK (l.map (·.c)) k
  | 0 => rfl
  | k + 1 => by
    unfold sortC sortK
    rw [List.getElem?_map]
    cases l[k]? with
    | none => exact sortC_map l k
    | some x =>
      simp only [Option.map_some]
      rw [stopC_map, sortC_map l k]
      unfold putC putK
      rw [List.map_append, List.map_cons, List.map_take, List.map_drop, sortC_map l k]
theorem putC_mem {S : List Rc} {x z : Rc} {j : Nat} (h : z ∈ putC S x j) : z ∈ S ∨ z = x := by
  unfold putC at h
  rcases List.mem_append.1 h with h | h
  · exact .inl (List.mem_of_mem_take h)
  · rcases List.mem_cons.1 h with h | h
    · exact .inr h
    · exact .inl (List.mem_of_mem_drop h)
theorem sortC_mem {l : List Rc} {z : Rc} : ∀ k, z ∈ sortC l k → z ∈ l
  | 0, h => by simp [sortC] at h
  | k + 1, h => by
    unfold sortC at h
    cases hx : l[k]? with
    | none => rw [hx] at h; exact sortC_mem k h
    | some x =>
      rw [hx] at h
      rcases putC_mem h with h | h
      · exact sortC_mem k h
      · rw [h]; exact List.mem_of_getElem? hx
/-- The mill with a bale more. -/
def putM (m : Mll) (x : Cot) : Mll := ⟨m.lots, m.size, sortK (m.cots ++ [x]) (m.cots.length + 1)⟩
def putME (m : Mll) (x : Cot) : Int := if checkM m then (if m.cots.length = 7 then 9 else if checkM (putM m x) then 0 else 93) else 90
/-- What is returned: a mill of the call's own, or none. -/
def MlRet (er : Int) (m : Mll) (base : Nat) (v : Value) (W : World) : Prop := (er = 0 ∧ ∃ v0 L, v = valM m.lots m.size v0 ∧ TwinL base m.cots v0 L W) ∨ (er ≠ 0 ∧ v = valM 0 0 (.slice none 0 0))
theorem MlRet.ext {er : Int} {m : Mll} {base : Nat} {v : Value} {W W' : World} (h : MlRet er m base v W) (e : Ext W W') : MlRet er m base v W' := by
  rcases h with ⟨h1, v0, L, h2, h3⟩ | h
  · exact .inl ⟨h1, v0, L, h2, h3.ext e⟩
  · exact .inr h
theorem TwinL.offX {base : Nat} {cs : List Cot} {v : Value} {L : List Rc} {W W' : World} (h : TwinL base cs v L W) (k : OffX 24 W W') : TwinL base cs v L W' := ⟨h.own.offX k (by decide), fun r hr => ⟨(h.lists r hr).1.offX k (by decide), (h.lists r hr).2.offX k (by decide)⟩, h.map⟩
theorem TwinL.mono {base base' : Nat} {cs : List Cot} {v : Value} {L : List Rc} {W : World} (h : TwinL base cs v L W) (hb : base' ≤ base) : TwinL base' cs v L W := ⟨h.own.mono hb, fun r hr => (h.lists r hr).mono hb, h.map⟩
/-- The box of one cotton. -/
def OneC (x : Rc) (v : Value) (W : World) : Prop := ∃ b, v = .slice (some ⟨b, 0, none⟩) 1 1 ∧ Blk W b 63 (encC x).toArray
theorem sl_app {x : Rc} {w W : World} {A : Option Addr} {n c : Nat} {v : Value} {l : List Rc} {base : Nat} (hs : MlC w (.slice A n c) l) (hd : SlD w (.slice x.da x.dn x.dc) x.c.b.draws) (hw : SlW w (.slice x.wa x.wn x.wc) x.c.b.weighs) (e : Ext w W) (ho : Own encC 63 8 W base v (l ++ [x])) : MlC W v (l ++ [x]) :=
  ⟨Own.sl (enc := encC) encC_len ho, fun r hr => by
    rcases List.mem_append.1 hr with hr | hr
    · exact ⟨(hs.2 r hr).1.ext e, (hs.2 r hr).2.ext e⟩
    · simp at hr
      subst hr
      exact ⟨hd.ext e, hw.ext e⟩⟩
set_option maxHeartbeats 8000000 in
theorem putM_any (lots size : Int) (l : List Rc) (x : Rc) (sv : Value) (w : World) (hT : TabM w) (hs : MlC w sv l) (hd : SlD w (.slice x.da x.dn x.dc) x.c.b.draws) (hw : SlW w (.slice x.wa x.wn x.wc) x.c.b.weighs) (hlen : l.length ≤ 1000) (hxl : x.c.b.draws.length ≤ 1000 ∧ x.c.b.weighs.length ≤ 1000) :
    Calls Tryz.prog 47 #[valM lots size sv, valC x] w fun e w' => (∃ v, e = .returned (.tuple #[v, .int .i64 (putME (mOf lots size l) x.c)]) ∧ MlRet (putME (mOf lots size l) x.c) (putM (mOf lots size l) x.c) w.heap.size v w') ∧ Ext w w' := by
  have HS := Lib.hid hs; have HT := Lib.hid hT; have HLN := Lib.hid hlen; have HXD := Lib.hid hd; have HXW := Lib.hid hw; have HXL := Lib.hid hxl
  obtain ⟨A, n, c, rfl, hn, hlc, hcm⟩ := hs.1.form
  have HL := Lib.hid (show l.length = n from hn.out.symm)
  clear hs hT hn hlen hd hw hxl
  go_enter Tryz.func47, Tryz.ntmps47
  go_wp2_with fail
  obtain ⟨w2, hw2⟩ : ∃ w2, w2 = ((w.alloc (.cells #[.int .i64 lots, .int .i64 size, .slice A n c] 24)).alloc (.cells #[.int .i64 x.c.b.id, .int .i64 x.c.b.layers, .int .i64 x.c.b.dry.lo, .int .i64 x.c.b.dry.hi, .slice x.da x.dn x.dc, .slice x.wa x.wn x.wc, .int .i64 x.c.len, .int .i64 x.c.str] 63)).alloc (.cells #[.int .i64 0, .int .i64 0, .slice none 0 0] 24) := ⟨_, rfl⟩
  rw [← hw2]
  have B1 := Lib.hid (show Blk w2 w.heap.size 24 #[.int .i64 lots, .int .i64 size, .slice A n c] from hw2 ▸ ((Blk.new _ _ _).alloc _).alloc _)
  have BX := Lib.hid (show Blk w2 (w.heap.size + 1) 63 (encC x).toArray from hw2 ▸ (Blk.at_ (by simp)).alloc _)
  have BR := Lib.hid (show Blk w2 (w.heap.size + 1 + 1) 24 #[.int .i64 0, .int .i64 0, .slice none 0 0] from hw2 ▸ Blk.at_ (by simp))
  have E2 := Lib.hid (show Ext w w2 from hw2 ▸ ((Ext.al _ _).alloc _).alloc _)
  have HZ2 := Lib.hid (show w2.heap.size = w.heap.size + 3 by rw [hw2]; simp)
  clear hw2
  refine (checkM_any lots size l _ _ (HT.out.ext E2.out) (HS.out.ext E2.out) HLN.out).mono ?_
  rintro e w3 ⟨rfl, hE⟩
  replace B1 := Lib.hid (B1.out.ext hE); replace BX := Lib.hid (BX.out.ext hE); replace BR := Lib.hid (BR.out.ext hE)
  have E3 := Lib.hid (E2.out.trans hE)
  have HZ3 := Lib.hid (show w.heap.size + 3 ≤ w3.heap.size by have := HZ2.out; have := hE.size; omega)
  clear hE E2 HZ2
  obtain ⟨b0, b1, b2, bf, bl⟩ := B1.out.c3
  obtain ⟨r0, r1, r2, rf, rl⟩ := BR.out.c3
  cases hc : checkM (mOf lots size l) with
  | false =>
    have HPE := Lib.hid (show putME (mOf lots size l) x.c = 90 by unfold putME; rw [hc]; rfl)
    simp only [errB]
    clear hc
    go_wp2
    refine ret_set3N (BR.out) fun W' ⟨z0, z1, z2⟩ hW => ?_
    refine bodyPost_ret (v := .tuple #[valM 0 0 (.slice none 0 0), .int .i64 (90)]) (by simp only [results, Tryz.results47]; simp [go_sem, z0, z1, z2]) rfl ?_
    exact ⟨⟨_, by rw [HPE.out], .inr ⟨by rw [HPE.out]; decide, rfl⟩⟩, ext_grownP (E3.out) hW (by omega)⟩
  | true =>
    have HC := Lib.hid hc
    have HM := Lib.hid (mok_of hc)
    have hn7 : n ≤ 7 := by have h := HM.out.n7; simp at h; have := HL.out; omega
    simp only [errB]
    clear hc
    by_cases h7 : n = 7
    · have HPE := Lib.hid (show putME (mOf lots size l) x.c = 9 by unfold putME; rw [HC.out]; simp; have := HL.out; omega)
      have h7z : ((n : Int) == 7) = true := by simp; omega
      go_wp2
      refine ret_set3N (BR.out) fun W' ⟨z0, z1, z2⟩ hW => ?_
      refine bodyPost_ret (v := .tuple #[valM 0 0 (.slice none 0 0), .int .i64 (9)]) (by simp only [results, Tryz.results47]; simp [go_sem, z0, z1, z2]) rfl ?_
      exact ⟨⟨_, by rw [HPE.out], .inr ⟨by rw [HPE.out]; decide, rfl⟩⟩, ext_grownP (E3.out) hW (by omega)⟩
    · have h7z : ((n : Int) == 7) = false := by simp; omega
      go_upto_region 6 with (fail)
      have m0 := fun V (h : Ext w3 V) => (B1.out.ext h).c3.2.2.1
      have q0 := fun V (h : Ext w3 V) => (show V.cell? ⟨w.heap.size + 1, 0, none⟩ = some (.int .i64 x.c.b.id) from (BX.out.ext h).cell 0)
      have q1 := fun V (h : Ext w3 V) => (show V.cell? ⟨w.heap.size + 1, 1, none⟩ = some (.int .i64 x.c.b.layers) from (BX.out.ext h).cell 1)
      have q2 := fun V (h : Ext w3 V) => (show V.cell? ⟨w.heap.size + 1, 2, none⟩ = some (.int .i64 x.c.b.dry.lo) from (BX.out.ext h).cell 2)
      have q3 := fun V (h : Ext w3 V) => (show V.cell? ⟨w.heap.size + 1, 3, none⟩ = some (.int .i64 x.c.b.dry.hi) from (BX.out.ext h).cell 3)
      have q4 := fun V (h : Ext w3 V) => (show V.cell? ⟨w.heap.size + 1, 4, none⟩ = some (.slice x.da x.dn x.dc) from (BX.out.ext h).cell 4)
      have q5 := fun V (h : Ext w3 V) => (show V.cell? ⟨w.heap.size + 1, 5, none⟩ = some (.slice x.wa x.wn x.wc) from (BX.out.ext h).cell 5)
      have q6 := fun V (h : Ext w3 V) => (show V.cell? ⟨w.heap.size + 1, 6, none⟩ = some (.int .i64 x.c.len) from (BX.out.ext h).cell 6)
      have q7 := fun V (h : Ext w3 V) => (show V.cell? ⟨w.heap.size + 1, 7, none⟩ = some (.int .i64 x.c.str) from (BX.out.ext h).cell 7)
      clear b0 b1 b2 bf bl r0 r1 r2 rf rl h7z
      refine wp_region_tame_cutk (fun V => Ext w3 V) (fun V V' => Ext V V') (by kernel_rfl) 35 rfl 5 (by decide +kernel) (by decide +kernel) (by decide +kernel) (Ext.refl _).drew ?_
      simp only [List.take, List.drop]
      repeat (apply tame_q rfl; (intro ρ W hC hr hD; (obtain ⟨hrc, hrg, hrf, hrs⟩ := hr); (simp [go_sem] at hD); go_simp; first | exact ⟨⟨hC, Ext.refl _⟩, rfl⟩ | exact ⟨⟨hC, RS.refl _⟩, rfl⟩ | exact rfl); simp only [List.nil_append, List.cons_append])
      apply tame_v rfl (fun v V => Own encC 63 8 V w3.heap.size v l) (fun v V V' _ hE h => h.ext hE)
      · intro ρ V hC hr hD
        obtain ⟨hrc, hrg, hrf, hrs⟩ := hr
        simp [go_sem] at hD
        go_simp
        refine (cloneC_any _ l V (HS.out.1.ext (E3.out.trans hC)) HLN.out).mono ?_
        rintro e w' ⟨v', rfl, ho, hE⟩
        exact ⟨_, rfl, ⟨hC.trans hE, hE⟩, ho.mono hC.size⟩
      simp only [List.nil_append, List.cons_append]
      repeat (apply tame_q rfl; (intro ρ W hC hr hD; (obtain ⟨hrc, hrg, hrf, hrs⟩ := hr); (simp [go_sem] at hD); go_simp; first | exact ⟨⟨hC, Ext.refl _⟩, rfl⟩ | exact ⟨⟨hC, RS.refl _⟩, rfl⟩ | exact rfl); simp only [List.nil_append, List.cons_append])
      apply tame_v rfl (OneC x) (fun v V V' _ hE h => by obtain ⟨b', h1, h2⟩ := h; exact ⟨b', h1, h2.ext hE⟩)
      · intro ρ V hC hr hD
        obtain ⟨hrc, hrg, hrf, hrs⟩ := hr
        simp [go_sem] at hD
        go_simp
        exact ⟨⟨hC.alloc _, Ext.al _ _⟩, ⟨V.heap.size, rfl, Blk.new _ _ _⟩⟩
      simp only [List.nil_append, List.cons_append]
      refine tame_end 35 rfl rfl (fun ρ V hC hr hF => ?_)
      obtain ⟨hrc, hrg, hrf, hrs⟩ := hr
      have h20 : Own encC 63 8 V w3.heap.size (ρ (.tmp 20)) l := hF.2.2.1
      simp [go_sem] at hF
      obtain ⟨f18, f19, -, f21, ⟨b', f22, hB'⟩⟩ := hF
      obtain ⟨A3, n3, c3, e20, hn3, -, -⟩ := (show SlC V (ρ (.tmp 20)) l from Own.sl (enc := encC) encC_len h20).form
      rw [e20] at h20
      have H20 := Lib.hid h20; have HBB := Lib.hid hB'; have HCV := Lib.hid hC
      apply frame_to
      · go_simp
        exact rfl
      have EV := Lib.hid (E3.out.trans hC)
      replace B1 := Lib.hid (B1.out.ext hC); replace BR := Lib.hid (BR.out.ext hC)
      have hzv : w3.heap.size ≤ V.heap.size := hC.size
      clear f18 f19 f21 f22 h20 hB' e20 hrs hrc hrg hrf m0 q0 q1 q2 q3 q4 q5 q6 q7 hC hn3 BX
      have hll : l.length < 100000000000 := by have := HL.out; omega
      go_wp2_with (at_builtin; refine wpList_app encC 22 63 8 _ 96 Tryz.underlying22 info63x rfl (by decide) (by decide) encC_len encC_one rfl (.tmp 20) (.tmp 22) rfl w3.heap.size _ l rfl H20.out b' 1 x rfl (fun j u hu => by rw [HBB.out.cell j]; simpa using hu) hll hzv ?_)
      intro g cap w' hown hg2 hbel hgr
      have HOW := Lib.hid hown
      have E5 := Lib.hid (show Ext w w' from Below.trans EV.out (hbel.mono (by have := HZ3.out; omega)))
      replace B1 := Lib.hid (B1.out.below hbel (by have := HZ3.out; omega)); replace BR := Lib.hid (BR.out.below hbel (by have := HZ3.out; omega))
      have HZ5 := Lib.hid (show w3.heap.size ≤ w'.heap.size from Nat.le_trans hzv hbel.size)
      clear hown hg2 hbel hgr H20 HBB hzv
      obtain ⟨b0, b1, b2, bf, bl⟩ := B1.out.c3
      go_upto_region 7 with (fail)
      obtain ⟨w6, hw6⟩ : ∃ w6, w6 = w'.setCell ⟨w.heap.size, 2, none⟩ (.slice (some ⟨g, 0, none⟩) (l.length + 1) cap) := ⟨_, rfl⟩
      rw [← hw6]
      have E6 := Lib.hid (show Ext w w6 from hw6 ▸ E5.out.setCell (Nat.le_refl _) _)
      have C1 := Lib.hid (show Blk w6 w.heap.size 24 #[.int .i64 lots, .int .i64 size, .slice (some ⟨g, 0, none⟩) (l.length + 1) cap] by
        rw [hw6]; have h := B1.out.set_ 2 (.slice (some ⟨g, 0, none⟩) (l.length + 1) cap); simpa using h)
      have CR := Lib.hid (show Blk w6 (w.heap.size + 1 + 1) 24 #[.int .i64 0, .int .i64 0, .slice none 0 0] from hw6 ▸ BR.out.far (by dsimp only; omega) _)
      have O6 := Lib.hid (show Own encC 63 8 w6 w3.heap.size (.slice (some ⟨g, 0, none⟩) (l.length + 1) cap) (l ++ [x]) from hw6 ▸ (by simpa using HOW.out.far (a := ⟨w.heap.size, 2, none⟩) (by dsimp only; have := HZ3.out; omega) _))
      have ML6 := Lib.hid (sl_app HS.out HXD.out HXW.out E6.out O6.out)
      clear hw6 b0 b1 b2 bf bl B1 BR HOW E5
      obtain ⟨b0, b1, b2, bf, bl⟩ := C1.out.c3
      go_wp2_with fail
      refine (copiedM_any lots size (l ++ [x]) _ w6 ML6.out (by simp; have := HL.out; omega) (fun r hr => by
        rcases List.mem_append.1 hr with hr | hr
        · have h := valid_bds (HM.out.v r.c (List.mem_map_of_mem hr))
          exact ⟨by have := h.nd; omega, by have := h.nw; omega⟩
        · simp at hr
          subst hr
          exact HXL.out)).mono ?_
      rintro e w7 ⟨⟨v, L, rfl, tv⟩, hE⟩
      have TW := Lib.hid tv
      have E7 := Lib.hid (E6.out.trans hE)
      have HZ7 := Lib.hid (show w.heap.size + 3 ≤ w6.heap.size by have := CR.out.lt; omega)
      replace C1 := Lib.hid (C1.out.ext hE); replace CR := Lib.hid (CR.out.ext hE)
      have HLL := Lib.hid (show L.length = n + 1 by have h := congrArg List.length tv.map; simp at h; have := HL.out; omega)
      obtain ⟨g2, cap2, rfl⟩ : ∃ g2 cap2, v = .slice (some ⟨g2, 0, none⟩) (n + 1) cap2 := by
        rcases own_formG tv.own with ⟨-, h2⟩ | ⟨g', cap, cur, h1, -⟩
        · have h3 := HLL.out; rw [h2] at h3; simp at h3
        · exact ⟨g', cap, by rw [h1, HLL.out]⟩
      clear tv hE b0 b1 b2 bf bl
      dsimp only [valM]
      obtain ⟨b0, b1, b2, bf, bl⟩ := C1.out.c3
      go_upto_region 8 with (fail)
      obtain ⟨w8, hw8⟩ : ∃ w8, w8 = ((w7.setCell ⟨w.heap.size, 0, none⟩ (.int .i64 lots)).setCell ⟨w.heap.size, 1, none⟩ (.int .i64 size)).setCell ⟨w.heap.size, 2, none⟩ (.slice (some ⟨g2, 0, none⟩) (n + 1) cap2) := ⟨_, rfl⟩
      rw [← hw8]
      have hG8 : w7.grownBy w8 (some w.heap.size) := hw8 ▸ grown_set (grown_set (grown_set (World.grownBy.refl _ _) (p := ⟨w.heap.size, 0, none⟩) (.inl rfl) _) (p := ⟨w.heap.size, 1, none⟩) (.inl rfl) _) (p := ⟨w.heap.size, 2, none⟩) (.inl rfl) _
      have OF8 := Lib.hid (offX_grown C1.out hG8)
      have D1 := Lib.hid (show Blk w8 w.heap.size 24 #[.int .i64 lots, .int .i64 size, .slice (some ⟨g2, 0, none⟩) (n + 1) cap2] by
        rw [hw8]; have h := ((C1.out.set_ 0 (.int .i64 lots)).set_ 1 (.int .i64 size)).set_ 2 (.slice (some ⟨g2, 0, none⟩) (n + 1) cap2); simpa using h)
      have DR := Lib.hid (CR.out.grown hG8 (by intro e; injection e with e; omega))
      have E8 := Lib.hid (ext_grownP E7.out hG8 (Nat.le_refl _))
      have TW8 := Lib.hid (TW.out.offX OF8.out)
      clear hw8 hG8 OF8 b0 b1 b2 bf bl C1 CR TW E7
      obtain ⟨b0, b1, b2, bf, bl⟩ := D1.out.c3
      go_wp2_with fail
      refine (f87_any L g2 (n + 1) cap2 _ w8 HLL.out.symm (by omega) (by omega) TW8.out.own).mono ?_
      rintro e w9 ⟨⟨rv, rfl⟩, ho, hg⟩
      have O9 := Lib.hid ho
      have hgb : w6.heap.size ≤ g2 := by
        rcases own_formG TW8.out.own with ⟨h1, -⟩ | ⟨g', cap', cur, h1, h2, -⟩
        · simp at h1
        · obtain ⟨rfl, -⟩ : g2 = g' ∧ _ := by simpa using h1
          exact h2
      obtain ⟨g', cur, eg', -, hcur, -⟩ := rowC_of TW8.out.own (by rw [HLL.out]; omega)
      obtain rfl : g2 = g' := by simpa using eg'
      have OF9 := Lib.hid (offX_grown hcur hg)
      have TWL := Lib.hid (show TwinL w6.heap.size (putM (mOf lots size l) x.c).cots (.slice (some ⟨g2, 0, none⟩) (n + 1) cap2) (sortC L (n + 1)) w9 from ⟨O9.out, fun r hr => (TW8.out.lists r (sortC_mem _ hr)).off OF9.out, by
        rw [sortC_map, TW8.out.map]
        show sortK _ _ = sortK _ _
        congr 1
        · simp
        · simp [HL.out]⟩)
      have E9 := Lib.hid (ext_grownP E8.out hg (by have := HZ7.out; omega))
      replace D1 := Lib.hid (D1.out.grown hg (by intro e; injection e with e; have := HZ7.out; omega))
      replace DR := Lib.hid (DR.out.grown hg (by intro e; injection e with e; have := HZ7.out; omega))
      have HGB := Lib.hid hgb
      clear ho hg hgb hcur eg' b0 b1 b2 bf bl O9 TW8 OF9 E8
      have HMO := Lib.hid (show mOf lots size (sortC L (n + 1)) = putM (mOf lots size l) x.c by
        show (⟨lots, size, (sortC L (n + 1)).map (·.c)⟩ : Mll) = _
        rw [TWL.out.map]
        rfl)
      have HSL := Lib.hid (show (sortC L (n + 1)).length ≤ 1000 by rw [sortC_len L (n + 1) (by rw [HLL.out]; exact Nat.le_refl _)]; omega)
      obtain ⟨b0, b1, b2, bf, bl⟩ := D1.out.c3
      go_wp2_with fail
      refine (checkM_any lots size (sortC L (n + 1)) _ _ (HT.out.ext E9.out) TWL.out.mlc HSL.out).mono ?_
      rintro e w10 ⟨rfl, hE⟩
      rw [HMO.out]
      replace TWL := Lib.hid (TWL.out.ext hE)
      replace D1 := Lib.hid (D1.out.ext hE); replace DR := Lib.hid (DR.out.ext hE)
      have E10 := Lib.hid (E9.out.trans hE)
      clear hE b0 b1 b2 bf bl E9
      obtain ⟨b0, b1, b2, bf, bl⟩ := D1.out.c3
      obtain ⟨r0, r1, r2, rf, rl⟩ := DR.out.c3
      have HN7 := Lib.hid (show ¬ (mOf lots size l).cots.length = 7 by simp; have := HL.out; omega)
      cases hc2 : checkM (putM (mOf lots size l) x.c) with
      | false =>
        have HPE := Lib.hid (show putME (mOf lots size l) x.c = 93 by unfold putME; rw [HC.out, if_neg HN7.out, hc2]; rfl)
        simp only [errB]
        clear hc2
        go_wp2
        refine ret_set3N (DR.out) fun W' ⟨z0, z1, z2⟩ hW => ?_
        refine bodyPost_ret (v := .tuple #[valM 0 0 (.slice none 0 0), .int .i64 (93)]) (by simp only [results, Tryz.results47]; simp [go_sem, z0, z1, z2]) rfl ?_
        exact ⟨⟨_, by rw [HPE.out], .inr ⟨by rw [HPE.out]; decide, rfl⟩⟩, ext_grownP (E10.out) hW (by omega)⟩
      | true =>
        have HPE := Lib.hid (show putME (mOf lots size l) x.c = 0 by unfold putME; rw [HC.out, if_neg HN7.out, hc2]; rfl)
        simp only [errB]
        clear hc2
        go_wp2
        refine ret_set3N DR.out fun W' ⟨z0, z1, z2⟩ hW => ?_
        refine bodyPost_ret (v := .tuple #[valM lots size (.slice (some ⟨g2, 0, none⟩) (n + 1) cap2), .int .i64 0]) (by simp only [results, Tryz.results47]; simp [go_sem, z0, z1, z2]) rfl ?_
        exact ⟨⟨valM lots size (.slice (some ⟨g2, 0, none⟩) (n + 1) cap2), by rw [HPE.out], .inl ⟨HPE.out, _, _, rfl, (TWL.out.offX (offX_grown DR.out hW)).mono (by have := HZ7.out; omega)⟩⟩, ext_grownP E10.out hW (by omega)⟩
end Go.Proofs.YtkpengeaolcjhaaGreatDoor
/- slices.Delete at cottons, of one of them. -/
namespace Go.Proofs.YtkpengeaolcjhaaGreatDoor
open Go.RowKit Go.Shelf Go.Lib
set_option maxRecDepth 100000
set_option linter.unusedSimpArgs false

theorem flatC_len (L : List Rc) : (L.flatMap encC).length = L.length * 8 := enc_len (enc := encC) encC_len L
theorem flatC_take : ∀ (L : List Rc) (i : Nat), (L.flatMap encC).take (i * 8) = (L.take i).flatMap encC
  | L, 0 => by simp
  | [], i + 1 => by simp
  | x :: L, i + 1 => by
    rw [List.flatMap_cons, List.take_succ_cons, List.flatMap_cons, ← flatC_take L i]
    rw [show (i + 1) * 8 = (encC x).length + i * 8 by rw [encC_len]; omega, List.take_length_add_append]
theorem flatC_drop : ∀ (L : List Rc) (i : Nat), (L.flatMap encC).drop (i * 8) = (L.drop i).flatMap encC
  | L, 0 => by simp
  | [], i + 1 => by simp
  | x :: L, i + 1 => by
    rw [List.flatMap_cons, List.drop_succ_cons, ← flatC_drop L i]
    rw [show (i + 1) * 8 = (encC x).length + i * 8 by rw [encC_len]; omega, List.drop_length_add_append]
theorem run_delC {W : World} {base g n c i p m : Nat} {ty : TypeId} {L : List Rc} {z : Rc} (hp : m = 0 ∨ p = (i + 1) * 8) (hm : m = n - (i + 1)) (ho : Own encC 63 8 W base (.slice (some ⟨g, 0, none⟩) n c) L) (hn : n = L.length) (hi : i < n) (hz : L[n - 1]? = some z) :
    ∃ W', (Builtin.append_ #[22, 22] ty #[.slice (some ⟨g, 0, none⟩) i c, .slice (some ⟨g, p, none⟩) m (c - (i + 1))]).run Tryz.prog W = .ok (.slice (some ⟨g, 0, none⟩) (n - 1) c) W' ∧ Own encC 63 8 W' base (.slice (some ⟨g, 0, none⟩) n c) ((L.take i ++ L.drop (i + 1)) ++ [z]) ∧ W.grownBy W' (some g) := by
  subst hm
  obtain ⟨g', cur, eg, hb, hB, hnL, hlc, hmx, hcs, ht⟩ := rowC_of ho (by omega)
  obtain rfl : g = g' := by simpa using eg
  obtain ⟨i0, hi0, hz0, hz1, hz2⟩ := info_parts info63x
  have hl : ((L.drop (i + 1)).flatMap encC).length = (n - (i + 1)) * i0.size := by rw [flatC_len, List.length_drop, hz1, hn]
  have hget : ∀ q, q < L.length * 8 → cur[q]? = (L.flatMap encC)[q]? := fun q hq => by
    rw [← ht, List.getElem?_take, if_pos hq]
    simp
  have hnews : ∀ j u, ((L.drop (i + 1)).flatMap encC)[j]? = some u → W.cell? ((⟨g, p, none⟩ : Addr).add j) = some u := fun j u hu => by
    have hj := (List.getElem?_eq_some_iff.1 hu).1
    rw [flatC_len, List.length_drop] at hj
    obtain rfl : p = (i + 1) * 8 := by rcases hp with h | h; · omega
                                       · exact h
    rw [Addr.add_lit]
    rw [hB.cell, hget _ (by omega), ← hu, ← flatC_drop, List.getElem?_drop]
  have hr := run_append_room (P := Tryz.prog) W 22 ty 63 i0 Tryz.underlying22 hi0 g i c cur hB ⟨g, p, none⟩ (n - (i + 1)) (c - (i + 1)) ((L.drop (i + 1)).flatMap encC) hl hnews (fun u hu => by
    obtain ⟨q, _, hq⟩ := List.mem_flatMap.1 hu
    exact encC_one q u hq) (by omega) (by rw [hz1, flatC_len, List.length_drop, hcs]; omega)
  rw [show i + (n - (i + 1)) = n - 1 by omega] at hr
  rw [hz1] at hr
  refine ⟨_, hr, ?_, ⟨rfl, rfl, rfl, by simp, fun k _ hk => setRow_other W g k _ (fun e => hk (by rw [e]))⟩⟩
  have e1 : cur.toList.take (i * 8) = (L.take i).flatMap encC := by
    rw [← flatC_take, ← ht, List.take_take, Nat.min_eq_left (by omega)]
  have e2 : (cur.toList.drop (i * 8 + ((L.drop (i + 1)).flatMap encC).length)).take 8 = encC z := by
    rw [flatC_len, List.length_drop, show i * 8 + (L.length - (i + 1)) * 8 = (n - 1) * 8 by omega]
    have e3 : (cur.toList.drop ((n - 1) * 8)).take 8 = (cur.toList.take (L.length * 8)).drop ((n - 1) * 8) := by
      rw [List.drop_take]
      congr 1
      omega
    rw [e3, ht, flatC_drop, drop_at hz, List.drop_eq_nil_of_le (by omega)]
    simp
  have hlen : (L.take i ++ L.drop (i + 1) ++ [z]).length = n := by simp; omega
  have h := rowC_own (W := W.setRow g (cur.toList.take (i * 8) ++ (L.drop (i + 1)).flatMap encC ++ cur.toList.drop (i * 8 + ((L.drop (i + 1)).flatMap encC).length)).toArray) (base := base) (g := g) (c := c) (L := L.take i ++ L.drop (i + 1) ++ [z]) hb (setRow_heap W g cur _ 63 _ hB) (by rw [hlen]; omega) hmx (by
      simp only [List.size_toArray, List.length_append, List.length_take, List.length_drop, Array.length_toList, flatC_len, hcs]
      omega) (by
      rw [hlen]
      show List.take (n * 8) (cur.toList.take (i * 8) ++ (L.drop (i + 1)).flatMap encC ++ cur.toList.drop (i * 8 + ((L.drop (i + 1)).flatMap encC).length)) = _
      rw [e1, List.flatMap_append, List.flatMap_append, List.flatMap_cons, List.flatMap_nil, List.append_nil, ← e2]
      have hx : ((L.take i).flatMap encC ++ (L.drop (i + 1)).flatMap encC).length = (n - 1) * 8 := by
        rw [List.length_append, flatC_len, flatC_len, List.length_take, List.length_drop]
        omega
      rw [show n * 8 = ((L.take i).flatMap encC ++ (L.drop (i + 1)).flatMap encC).length + 8 by rw [hx]; omega, List.take_length_add_append])
  rwa [hlen] at h
theorem wpList_delC {ops : Array Oper} {rest : List Oper} {o : Oper} {a : Act} {Q : Exit → Act → World → Prop} {W : World} (hgd : o.guard = none) (s x : Operand)
    (ho : o.op = .call { callee := .builtin .append, args := #[s, x], argTypes := #[22, 22] }) {base g q c i p m : Nat} {L : List Rc} {z : Rc} (hs : a.eval s = .slice (some ⟨g, 0, none⟩) i c) (hx : a.eval x = .slice (some ⟨g, p, none⟩) m (c - (i + 1))) (hp : m = 0 ∨ p = (i + 1) * 8) (hm : m = q + 1 - (i + 1))
    (hown : Own encC 63 8 W base (.slice (some ⟨g, 0, none⟩) (q + 1) c) L) (hn : q + 1 = L.length) (hi : i < q + 1) (hz : L[q]? = some z)
    (h : ∀ W', Own encC 63 8 W' base (.slice (some ⟨g, 0, none⟩) (q + 1) c) ((L.take i ++ L.drop (i + 1)) ++ [z]) → W.grownBy W' (some g) → wpList Tryz.prog ops Q rest (a.put o.dst (.slice (some ⟨g, 0, none⟩) q c)) W') : wpList Tryz.prog ops Q (o :: rest) a W := by
  obtain ⟨W', hr, h1, h2⟩ := run_delC (ty := o.type) hp hm hown hn hi hz
  refine wpList_plain hgd fun K hK => ?_
  unfold Oper.wp execOp
  simp only [ho, resolve, invoke, builtin, Sem.run_bind, Sem.run_pure, Result.andThen_ok, List.map_toArray, List.map_cons, List.map_nil, hs, hx, hr]
  exact hK _ _ (h W' h1 h2)
set_option maxHeartbeats 2000000 in
theorem deleteC_any (L : List Rc) (g q c i base : Nat) (z : Rc) (w : World) (hn : q + 1 = L.length) (hi : i < q + 1) (hc : q + 1 ≤ c) (hq : q ≤ 1000) (hz : L[q]? = some z) (ho : Own encC 63 8 w base (.slice (some ⟨g, 0, none⟩) (q + 1) c) L) :
    Calls Tryz.prog 85 #[.slice (some ⟨g, 0, none⟩) (q + 1) c, .int .i64 (i : Int), .int .i64 ((i : Int) + 1)] w fun e w' => e = .returned (.slice (some ⟨g, 0, none⟩) q c) ∧ Own encC 63 8 w' base (.slice (some ⟨g, 0, none⟩) q c) (L.take i ++ L.drop (i + 1)) ∧ w.grownBy w' (some g) := by
  have HO := Lib.hid ho; have HN := Lib.hid hn; have HZ := Lib.hid hz
  have h1 : ((i : Int) == (i : Int) + 1) = false := by simp; omega
  have h2 : (i : Int) ≤ (q : Int) + 1 := by omega
  have h3 : (i : Int) + 1 ≤ (q : Int) + 1 := by omega
  have h4 : (i : Int) ≤ (i : Int) + 1 := by omega
  have h5 : ((q : Int) + 1) ≤ (c : Int) := by omega
  have h6 : (i : Int) ≤ (c : Int) := by omega
  clear ho hn hz
  go_enter Tryz.func85, Tryz.ntmps85
  go_upto_region 5 with (fail)
  refine wp_region_tame_cutk (fun V => Ext w V) (fun V V' => Ext V V') (by kernel_rfl) 33 rfl 6 (by decide +kernel) (by decide +kernel) (by decide +kernel) (Ext.refl _).drew ?_
  simp only [List.take, List.drop]
  repeat (apply tame_q rfl; (intro ρ W hC hr hD; (obtain ⟨hrc, hrg, hrf, hrs⟩ := hr); (simp [go_sem] at hD); go_simp; first | exact ⟨⟨hC, Ext.refl _⟩, rfl⟩ | exact ⟨⟨hC, RS.refl _⟩, rfl⟩ | exact rfl); simp only [List.nil_append, List.cons_append])
  refine tame_end 33 rfl rfl (fun ρ V hC hr hF => ?_)
  obtain ⟨hrc, hrg, hrf, hrs⟩ := hr
  simp [go_sem] at hF
  obtain ⟨f20, f21, f22, f23, f24, f25⟩ := hF
  obtain ⟨p, f25', hp⟩ : ∃ p, ρ (.tmp 25) = .slice (some ⟨g, p, none⟩) (q - i) (c - (i + 1)) ∧ (q - i = 0 ∨ p = (i + 1) * 8) := by
    by_cases hci : c = i + 1
    · exact ⟨0, by rw [f25, if_pos hci], .inl (by omega)⟩
    · exact ⟨(i + 1) * 8, by rw [f25, if_neg hci], .inr rfl⟩
  have HP := Lib.hid hp; have HC := Lib.hid hC
  clear f25
  apply frame_to
  · go_simp
    exact rfl
  clear f20 f21 f22 f23 f24 f25' hrs hrc hrg hrf hp hC
  go_wp2_with (at_builtin; refine wpList_delC rfl (.tmp 22) (.tmp 25) rfl (base := base) (p := p) (q := q) (m := q - i) rfl rfl HP.out (by omega) (HO.out.ext HC.out) HN.out hi HZ.out ?_)
  intro w1 ho1 hg1
  have hl1 : q + 1 = (L.take i ++ (L.drop (i + 1) ++ [z])).length := by have := HN.out; simp; omega
  obtain ⟨w', hr, HOC, hgr⟩ := run_clear_own (enc := encC) (sz := 8) encC_len (t := 22) (e := 63) (ty := 0) (z := .agg #[.int .i64 0, .int .i64 0, .int .i64 0, .int .i64 0, .slice none 0 0, .slice none 0 0, .int .i64 0, .int .i64 0]) Tryz.underlying22 Tryz.zeroValue63 rfl (by decide) (by decide) (k := q) (c := c - q) ho1 hl1 (by omega)
  have HE1 := Lib.hid (grown_tr (grown_tr (grown_ext (World.grownBy.refl _ _) HC.out) hg1) hgr)
  have HT := Lib.hid (show (L.take i ++ (L.drop (i + 1) ++ [z])).take q = L.take i ++ L.drop (i + 1) by
    have := HN.out
    rw [← List.append_assoc]
    rw [List.take_append_of_le_length (by simp; omega), List.take_of_length_le (by simp; omega)])
  have HO3 := Lib.hid (HT.out ▸ HOC)
  have hqz : (q : Int) ≤ (q : Int) + 1 := by omega
  have hqc : q ≤ c := by omega
  have hqcz : (q : Int) ≤ (c : Int) := by omega
  have e1 : q + 1 - q = 1 := by omega
  have hci : ¬ c = q := by omega
  have hsub : q + 1 - q = 1 := by omega
  rw [hsub] at hr
  clear hgr hg1 ho1 HOC hl1
  go_wp2
  go_ret
  exact ⟨rfl, HO3.out, HE1.out⟩
end Go.Proofs.YtkpengeaolcjhaaGreatDoor
/- mill.Take. -/
namespace Go.Proofs.YtkpengeaolcjhaaGreatDoor
open Go.RowKit Go.Shelf Go.Lib
set_option maxRecDepth 100000
set_option linter.unusedSimpArgs false

/-- The place of a bale's number among the cottons, or -1. -/
def placeM (m : Mll) (id : Int) : Int := idxF (fun y => decide (id = y)) (m.cots.map (·.b.id))
def takeK (l : List Cot) (i : Nat) : List Cot := l.take i ++ l.drop (i + 1)
/-- The mill without a bale. -/
def takeM (m : Mll) (id : Int) : Mll := ⟨m.lots, m.size, takeK m.cots (placeM m id).toNat⟩
def takeME (m : Mll) (id : Int) : Int := if checkM m then (if placeM m id < 0 then 6 else 0) else 90
set_option maxHeartbeats 8000000 in
theorem takeM_any (lots size id : Int) (l : List Rc) (sv : Value) (w : World) (hT : TabM w) (hs : MlC w sv l) (hlen : l.length ≤ 1000) :
    Calls Tryz.prog 46 #[valM lots size sv, .int .i64 id] w fun e w' => (∃ v, e = .returned (.tuple #[v, .int .i64 (takeME (mOf lots size l) id)]) ∧ MlRet (takeME (mOf lots size l) id) (takeM (mOf lots size l) id) w.heap.size v w') ∧ Ext w w' := by
  have HS := Lib.hid hs; have HT := Lib.hid hT; have HLN := Lib.hid hlen
  obtain ⟨A, n, c, rfl, hn, hlc, hcm⟩ := hs.1.form
  have HL := Lib.hid (show l.length = n from hn.out.symm)
  clear hs hT hn hlen
  go_enter Tryz.func46, Tryz.ntmps46
  go_wp2_with fail
  obtain ⟨w2, hw2⟩ : ∃ w2, w2 = (w.alloc (.cells #[.int .i64 lots, .int .i64 size, .slice A n c] 24)).alloc (.cells #[.int .i64 0, .int .i64 0, .slice none 0 0] 24) := ⟨_, rfl⟩
  rw [← hw2]
  have B1 := Lib.hid (show Blk w2 w.heap.size 24 #[.int .i64 lots, .int .i64 size, .slice A n c] from hw2 ▸ (Blk.new _ _ _).alloc _)
  have BR := Lib.hid (show Blk w2 (w.heap.size + 1) 24 #[.int .i64 0, .int .i64 0, .slice none 0 0] from hw2 ▸ Blk.at_ (by simp))
  have E2 := Lib.hid (show Ext w w2 from hw2 ▸ (Ext.al _ _).alloc _)
  have HZ2 := Lib.hid (show w2.heap.size = w.heap.size + 2 by rw [hw2]; simp)
  clear hw2
  refine (checkM_any lots size l _ _ (HT.out.ext E2.out) (HS.out.ext E2.out) HLN.out).mono ?_
  rintro e w3 ⟨rfl, hE⟩
  replace B1 := Lib.hid (B1.out.ext hE); replace BR := Lib.hid (BR.out.ext hE)
  have E3 := Lib.hid (E2.out.trans hE)
  have HZ3 := Lib.hid (show w.heap.size + 2 ≤ w3.heap.size by have := HZ2.out; have := hE.size; omega)
  clear hE E2 HZ2
  obtain ⟨b0, b1, b2, bf, bl⟩ := B1.out.c3
  obtain ⟨r0, r1, r2, rf, rl⟩ := BR.out.c3
  cases hc : checkM (mOf lots size l) with
  | false =>
    have HPE := Lib.hid (show takeME (mOf lots size l) id = 90 by unfold takeME; rw [hc]; rfl)
    simp only [errB]
    clear hc
    go_wp2
    refine ret_set3N (BR.out) fun W' ⟨z0, z1, z2⟩ hW => ?_
    refine bodyPost_ret (v := .tuple #[valM 0 0 (.slice none 0 0), .int .i64 (90)]) (by simp only [results, Tryz.results46]; simp [go_sem, z0, z1, z2]) rfl ?_
    exact ⟨⟨_, by rw [HPE.out], .inr ⟨by rw [HPE.out]; decide, rfl⟩⟩, ext_grownP (E3.out) hW (by omega)⟩
  | true =>
    have HC := Lib.hid hc
    have HM := Lib.hid (mok_of hc)
    have hn7 : n ≤ 7 := by have h := HM.out.n7; simp at h; have := HL.out; omega
    simp only [errB]
    clear hc
    go_wp2_with fail
    refine (ids_any lots size l _ w3 (HS.out.1.ext E3.out) HLN.out).mono ?_
    rintro e w4 ⟨⟨v, rfl, hown⟩, hE⟩
    replace B1 := Lib.hid (B1.out.ext hE); replace BR := Lib.hid (BR.out.ext hE)
    have E4 := Lib.hid (E3.out.trans hE)
    have OI := Lib.hid hown
    clear hE hown E3 b0 b1 b2 bf bl r0 r1 r2 rf rl
    go_wp2_with fail
    refine (f84_any (l.map (·.c.b.id)) id v w4 (Own.sl (enc := encI) (fun _ => rfl) OI.out)).mono ?_
    rintro e w5 ⟨rfl, hE⟩
    replace B1 := Lib.hid (B1.out.ext hE); replace BR := Lib.hid (BR.out.ext hE)
    have E5 := Lib.hid (E4.out.trans hE)
    have HZ5 := Lib.hid (show w.heap.size + 2 ≤ w5.heap.size by have := BR.out.lt; omega)
    have HPL := Lib.hid (show placeM (mOf lots size l) id = idxF (fun y => decide (id = y)) (l.map (·.c.b.id)) by unfold placeM; rw [List.map_map]; rfl)
    clear hE OI E4 HZ3
    obtain ⟨b0, b1, b2, bf, bl⟩ := B1.out.c3
    obtain ⟨r0, r1, r2, rf, rl⟩ := BR.out.c3
    rcases idxF_cases (fun y => decide (id = y)) (l.map (·.c.b.id)) with ⟨hi, -⟩ | ⟨k, y, hi, hy, -, -⟩
    · rw [hi]
      have HPE := Lib.hid (show takeME (mOf lots size l) id = 6 by unfold takeME; rw [HC.out, HPL.out, hi]; rfl)
      clear hi
      go_wp2
      refine ret_set3N (BR.out) fun W' ⟨z0, z1, z2⟩ hW => ?_
      refine bodyPost_ret (v := .tuple #[valM 0 0 (.slice none 0 0), .int .i64 (6)]) (by simp only [results, Tryz.results46]; simp [go_sem, z0, z1, z2]) rfl ?_
      exact ⟨⟨_, by rw [HPE.out], .inr ⟨by rw [HPE.out]; decide, rfl⟩⟩, ext_grownP (E5.out) hW (by omega)⟩
    · rw [hi]
      have HPE := Lib.hid (show takeME (mOf lots size l) id = 0 by unfold takeME; rw [HC.out, HPL.out, hi, if_pos rfl, if_neg (by omega)])
      have HPK := Lib.hid (show (placeM (mOf lots size l) id).toNat = k by rw [HPL.out, hi]; simp)
      have hkn : k < n := by
        have := (List.getElem?_eq_some_iff.1 hy).1
        simp at this
        have := HL.out; omega
      have hk0 : ¬ ((k : Int) < 0) := by omega
      clear hi hy
      go_wp2_with fail
      refine (copiedM_any lots size l _ w5 (HS.out.ext E5.out) HLN.out (fun r hr => by
        have h := valid_bds (HM.out.v r.c (List.mem_map_of_mem hr))
        exact ⟨by have := h.nd; omega, by have := h.nw; omega⟩)).mono ?_
      rintro e w7 ⟨⟨v, L, rfl, tv⟩, hE⟩
      have TW := Lib.hid tv
      have E7 := Lib.hid (E5.out.trans hE)
      replace B1 := Lib.hid (B1.out.ext hE); replace BR := Lib.hid (BR.out.ext hE)
      have HLL := Lib.hid (show L.length = n by have h := congrArg List.length tv.map; simp at h; have := HL.out; omega)
      obtain ⟨g2, cap2, rfl, hcap⟩ : ∃ g2 cap2, v = .slice (some ⟨g2, 0, none⟩) n cap2 ∧ n ≤ cap2 := by
        rcases own_formG tv.own with ⟨-, h2⟩ | ⟨g', cap, cur, h1, -, -, h4, -⟩
        · have h3 := HLL.out; rw [h2] at h3; simp at h3; omega
        · exact ⟨g', cap, by rw [h1, HLL.out], by have := HLL.out; omega⟩
      clear tv hE b0 b1 b2 bf bl r0 r1 r2 rf rl E5
      dsimp only [valM]
      obtain ⟨b0, b1, b2, bf, bl⟩ := B1.out.c3
      go_upto_region 8 with (fail)
      obtain ⟨w8, hw8⟩ : ∃ w8, w8 = ((w7.setCell ⟨w.heap.size, 0, none⟩ (.int .i64 lots)).setCell ⟨w.heap.size, 1, none⟩ (.int .i64 size)).setCell ⟨w.heap.size, 2, none⟩ (.slice (some ⟨g2, 0, none⟩) n cap2) := ⟨_, rfl⟩
      rw [← hw8]
      have hG8 : w7.grownBy w8 (some w.heap.size) := hw8 ▸ grown_set (grown_set (grown_set (World.grownBy.refl _ _) (p := ⟨w.heap.size, 0, none⟩) (.inl rfl) _) (p := ⟨w.heap.size, 1, none⟩) (.inl rfl) _) (p := ⟨w.heap.size, 2, none⟩) (.inl rfl) _
      have OF8 := Lib.hid (offX_grown B1.out hG8)
      have D1 := Lib.hid (show Blk w8 w.heap.size 24 #[.int .i64 lots, .int .i64 size, .slice (some ⟨g2, 0, none⟩) n cap2] by
        rw [hw8]; have h := ((B1.out.set_ 0 (.int .i64 lots)).set_ 1 (.int .i64 size)).set_ 2 (.slice (some ⟨g2, 0, none⟩) n cap2); simpa using h)
      have DR := Lib.hid (BR.out.grown hG8 (by intro e; injection e with e; omega))
      have E8 := Lib.hid (ext_grownP E7.out hG8 (Nat.le_refl _))
      have TW8 := Lib.hid (TW.out.offX OF8.out)
      clear hw8 hG8 OF8 b0 b1 b2 bf bl B1 BR TW E7
      obtain ⟨b0, b1, b2, bf, bl⟩ := D1.out.c3
      obtain ⟨z, hz⟩ : ∃ z, L[n - 1]? = some z := ⟨_, List.getElem?_eq_getElem (by have := HLL.out; omega)⟩
      obtain ⟨q, rfl⟩ : ∃ q, n = q + 1 := ⟨n - 1, by omega⟩
      have hwk : IntKind.i64.wrap ((k : Int) + 1) = (k : Int) + 1 := by rw [IntKind.wrap_i64]; omega
      go_wp2_with fail
      refine (deleteC_any L g2 q cap2 k _ z w8 HLL.out.symm hkn hcap (by omega) hz TW8.out.own).mono ?_
      rintro e w9 ⟨rfl, ho, hg⟩
      have O9 := Lib.hid ho
      have hgb : w5.heap.size ≤ g2 := by
        rcases own_formG TW8.out.own with ⟨h1, -⟩ | ⟨g', cap', cur, h1, h2, -⟩
        · simp at h1
        · obtain ⟨rfl, -⟩ : g2 = g' ∧ _ := by simpa using h1
          exact h2
      obtain ⟨g', cur, eg', -, hcur, -⟩ := rowC_of TW8.out.own (by rw [HLL.out]; omega)
      obtain rfl : g2 = g' := by simpa using eg'
      have OF9 := Lib.hid (offX_grown hcur hg)
      have TWL := Lib.hid (show TwinL w5.heap.size (takeM (mOf lots size l) id).cots (.slice (some ⟨g2, 0, none⟩) q cap2) (L.take k ++ L.drop (k + 1)) w9 from ⟨O9.out, fun r hr => (TW8.out.lists r (by
          rcases List.mem_append.1 hr with hr | hr
          · exact List.mem_of_mem_take hr
          · exact List.mem_of_mem_drop hr)).off OF9.out, by
        show _ = takeK (l.map (·.c)) (placeM (mOf lots size l) id).toNat
        rw [HPK.out, ← TW8.out.map]
        unfold takeK
        rw [List.map_append, List.map_take, List.map_drop]⟩)
      have E9 := Lib.hid (ext_grownP E8.out hg (by have := HZ5.out; omega))
      replace D1 := Lib.hid (D1.out.grown hg (by intro e; injection e with e; have := HZ5.out; omega))
      replace DR := Lib.hid (DR.out.grown hg (by intro e; injection e with e; have := HZ5.out; omega))
      clear ho hg hgb hcur eg' b0 b1 b2 bf bl O9 TW8 OF9 E8
      obtain ⟨b0, b1, b2, bf, bl⟩ := D1.out.c3
      go_upto_region 9 with (fail)
      obtain ⟨w10, hw10⟩ : ∃ w10, w10 = w9.setCell ⟨w.heap.size, 2, none⟩ (.slice (some ⟨g2, 0, none⟩) q cap2) := ⟨_, rfl⟩
      rw [← hw10]
      have hG10 : w9.grownBy w10 (some w.heap.size) := hw10 ▸ grown_set (World.grownBy.refl _ _) (p := ⟨w.heap.size, 2, none⟩) (.inl rfl) _
      have OF10 := Lib.hid (offX_grown D1.out hG10)
      have F1 := Lib.hid (show Blk w10 w.heap.size 24 #[.int .i64 lots, .int .i64 size, .slice (some ⟨g2, 0, none⟩) q cap2] by
        rw [hw10]; have h := D1.out.set_ 2 (.slice (some ⟨g2, 0, none⟩) q cap2); simpa using h)
      have FR := Lib.hid (DR.out.grown hG10 (by intro e; injection e with e; omega))
      have E10 := Lib.hid (ext_grownP E9.out hG10 (Nat.le_refl _))
      have TW10 := Lib.hid (TWL.out.offX OF10.out)
      clear hw10 hG10 OF10 b0 b1 b2 bf bl D1 DR TWL E9
      obtain ⟨b0, b1, b2, bf, bl⟩ := F1.out.c3
      obtain ⟨r0, r1, r2, rf, rl⟩ := FR.out.c3
      go_wp2
      refine ret_set3N FR.out fun W' ⟨z0, z1, z2⟩ hW => ?_
      refine bodyPost_ret (v := .tuple #[valM lots size (.slice (some ⟨g2, 0, none⟩) q cap2), .int .i64 0]) (by simp only [results, Tryz.results46]; simp [go_sem, z0, z1, z2]) rfl ?_
      exact ⟨⟨valM lots size (.slice (some ⟨g2, 0, none⟩) q cap2), by rw [HPE.out], .inl ⟨HPE.out, _, _, rfl, (TW10.out.offX (offX_grown FR.out hW)).mono (by have := HZ5.out; omega)⟩⟩, ext_grownP E10.out hW (by omega)⟩
end Go.Proofs.YtkpengeaolcjhaaGreatDoor
/- The reference's Index, without. -/
namespace Go.Proofs.YtkpengeaolcjhaaGreatDoor
open Go.RowKit Go.Shelf Go.Lib
set_option maxRecDepth 100000
set_option linter.unusedSimpArgs false

set_option maxHeartbeats 1000000 in
theorem indexM_any (lots size id : Int) (l : List Rc) (sv : Value) (w : World) (hs : MlC w sv l) (hlen : l.length ≤ 900) :
    Calls Tryz.prog 32 #[valM lots size sv, .int .i64 id] w fun e w' => e = .returned (.int .i64 (placeM (mOf lots size l) id)) ∧ Ext w w' := by
  have HS := Lib.hid hs
  obtain ⟨A, n, c, rfl, hn, hlc, hcm⟩ := hs.1.form
  have HL := Lib.hid (show l.length = n from hn.out.symm)
  have hn9 : n ≤ 900 := by have := hn.out; omega
  have HPL := Lib.hid (show placeM (mOf lots size l) id = idxF (fun y => decide (id = y)) (l.map (·.c.b.id)) by unfold placeM; rw [List.map_map]; rfl)
  clear hs hn hlen
  go_enter Tryz.func32, Tryz.ntmps32
  obtain ⟨w1, hw1⟩ : ∃ w1, w1 = w.alloc (.cells #[.int .i64 lots, .int .i64 size, .slice A n c] 24) := ⟨_, rfl⟩
  have B1 := Lib.hid (show Blk w1 w.heap.size 24 #[.int .i64 lots, .int .i64 size, .slice A n c] from hw1 ▸ Blk.new _ _ _)
  have E1 := Lib.hid (show Ext w w1 from hw1 ▸ Ext.al _ _)
  go_wp2
  rw [← hw1]
  clear hw1
  go_loopg [5] n (fun gg s wr => ∃ kk : Nat, kk ≤ n ∧ n - kk ≤ gg ∧ s = .int .i64 (kk : Int) ∧ Aside (Ext w1 wr) ∧ Aside (∀ j y, j < kk → (l.map (·.c.b.id))[j]? = some y → decide (id = y) = false))
  case atStart => exact ⟨0, Nat.zero_le _, by omega, rfl, Ext.refl _, fun j y hj => absurd hj (Nat.not_lt_zero _)⟩
  case round =>
    obtain ⟨kk, hkk, hg, rfl, BW, FA⟩ := hrel
    obtain ⟨b0, b1, b2, bf, bl⟩ := (B1.out.ext BW.out).c3
    by_cases hlt : kk < n
    · have hltz : (kk : Int) < (n : Int) := by omega
      obtain ⟨b, off, y, rfl, hx, hb, hcell⟩ := (HS.out.1.ext (E1.out.trans BW.out)).at_ hlt
      have c0 := (SlC.cells hcell (Ext.refl _)).1
      have HX := Lib.hid (show (l.map (·.c.b.id))[kk]? = some y.c.b.id by rw [List.getElem?_map, hx]; rfl)
      clear hx hcell
      have hwk : IntKind.i64.wrap ((kk : Int) + 1) = (kk : Int) + 1 := by rw [IntKind.wrap_i64]; omega
      by_cases hq : y.c.b.id = id
      · have HQ := Lib.hid (show decide (id = y.c.b.id) = true by simp [hq])
        go_wp2
        go_ret
        exact ⟨by rw [HPL.out, idxF_some (fun y => decide (id = y)) (l.map fun r => r.c.b.id) kk y.c.b.id HX.out HQ.out FA.out]; rfl, E1.out.trans BW.out⟩
      · have HQ := Lib.hid (show decide (id = y.c.b.id) = false by simp; exact fun e => hq e.symm)
        have hqb : (y.c.b.id == id) = false := by simpa using hq
        go_wp2
        go_roundg (n - (kk + 1))
        case measure => omega
        case rel => exact ⟨kk + 1, by omega, by omega, by simp, BW.out, fun j z hj hz => by
          by_cases hjk : j = kk
          · subst hjk
            rw [HX.out] at hz
            injection hz with hz
            rw [← hz]; exact HQ.out
          · exact FA.out j z (by omega) hz⟩
    · have HI := Lib.hid (show idxF (fun y => decide (id = y)) (l.map (·.c.b.id)) = -1 from idxF_none _ _ (fun x hx => by
        obtain ⟨j, hj⟩ := List.getElem?_of_mem hx
        refine FA.out j x ?_ hj
        have h1 := (List.getElem?_eq_some_iff.1 hj).1
        simp at h1
        have := HL.out
        omega))
      go_wp2
      go_ret
      exact ⟨by rw [HPL.out, HI.out]; rfl, E1.out.trans BW.out⟩
end Go.Proofs.YtkpengeaolcjhaaGreatDoor
/- mill.Want. -/
namespace Go.Proofs.YtkpengeaolcjhaaGreatDoor
open Go.RowKit Go.Shelf Go.Lib
set_option maxRecDepth 100000
set_option linter.unusedSimpArgs false

/-- The mill at another number of lots and another size. -/
def wantM (m : Mll) (a b : Int) : Mll := ⟨a, b, m.cots⟩
def wantME (m : Mll) (a b : Int) : Int := if checkM m then (if checkM (wantM m a b) then 0 else 94) else 90
set_option maxHeartbeats 8000000 in
theorem wantM_any (lots size la sb : Int) (l : List Rc) (sv : Value) (w : World) (hT : TabM w) (hs : MlC w sv l) (hlen : l.length ≤ 1000) :
    Calls Tryz.prog 44 #[valM lots size sv, .int .i64 la, .int .i64 sb] w fun e w' => (∃ v, e = .returned (.tuple #[v, .int .i64 (wantME (mOf lots size l) la sb)]) ∧ MlRet (wantME (mOf lots size l) la sb) (wantM (mOf lots size l) la sb) w.heap.size v w') ∧ Ext w w' := by
  have HS := Lib.hid hs; have HT := Lib.hid hT; have HLN := Lib.hid hlen
  obtain ⟨A, n, c, rfl, hn, hlc, hcm⟩ := hs.1.form
  have HL := Lib.hid (show l.length = n from hn.out.symm)
  clear hs hT hn hlen
  go_enter Tryz.func44, Tryz.ntmps44
  go_wp2_with fail
  obtain ⟨w2, hw2⟩ : ∃ w2, w2 = (w.alloc (.cells #[.int .i64 lots, .int .i64 size, .slice A n c] 24)).alloc (.cells #[.int .i64 0, .int .i64 0, .slice none 0 0] 24) := ⟨_, rfl⟩
  rw [← hw2]
  have B1 := Lib.hid (show Blk w2 w.heap.size 24 #[.int .i64 lots, .int .i64 size, .slice A n c] from hw2 ▸ (Blk.new _ _ _).alloc _)
  have BR := Lib.hid (show Blk w2 (w.heap.size + 1) 24 #[.int .i64 0, .int .i64 0, .slice none 0 0] from hw2 ▸ Blk.at_ (by simp))
  have E2 := Lib.hid (show Ext w w2 from hw2 ▸ (Ext.al _ _).alloc _)
  have HZ2 := Lib.hid (show w2.heap.size = w.heap.size + 2 by rw [hw2]; simp)
  clear hw2
  refine (checkM_any lots size l _ _ (HT.out.ext E2.out) (HS.out.ext E2.out) HLN.out).mono ?_
  rintro e w3 ⟨rfl, hE⟩
  replace B1 := Lib.hid (B1.out.ext hE); replace BR := Lib.hid (BR.out.ext hE)
  have E3 := Lib.hid (E2.out.trans hE)
  have HZ3 := Lib.hid (show w.heap.size + 2 ≤ w3.heap.size by have := HZ2.out; have := hE.size; omega)
  clear hE E2 HZ2
  obtain ⟨b0, b1, b2, bf, bl⟩ := B1.out.c3
  obtain ⟨r0, r1, r2, rf, rl⟩ := BR.out.c3
  cases hc : checkM (mOf lots size l) with
  | false =>
    have HPE := Lib.hid (show wantME (mOf lots size l) la sb = 90 by unfold wantME; rw [hc]; rfl)
    simp only [errB]
    clear hc
    go_wp2
    refine ret_set3N (BR.out) fun W' ⟨z0, z1, z2⟩ hW => ?_
    refine bodyPost_ret (v := .tuple #[valM 0 0 (.slice none 0 0), .int .i64 (90)]) (by simp only [results, Tryz.results44]; simp [go_sem, z0, z1, z2]) rfl ?_
    exact ⟨⟨_, by rw [HPE.out], .inr ⟨by rw [HPE.out]; decide, rfl⟩⟩, ext_grownP (E3.out) hW (by omega)⟩
  | true =>
    have HC := Lib.hid hc
    have HM := Lib.hid (mok_of hc)
    simp only [errB]
    clear hc
    go_wp2_with fail
    refine (copiedM_any lots size l _ w3 (HS.out.ext E3.out) HLN.out (fun r hr => by
      have h := valid_bds (HM.out.v r.c (List.mem_map_of_mem hr))
      exact ⟨by have := h.nd; omega, by have := h.nw; omega⟩)).mono ?_
    rintro e w7 ⟨⟨v, L, rfl, tv⟩, hE⟩
    have TW := Lib.hid tv
    have E7 := Lib.hid (E3.out.trans hE)
    replace B1 := Lib.hid (B1.out.ext hE); replace BR := Lib.hid (BR.out.ext hE)
    have HLL := Lib.hid (show L.length ≤ 1000 by have h := congrArg List.length tv.map; simp at h; have := HL.out; have := HLN.out; omega)
    obtain ⟨A2, n2, c2, rfl, -, -, -⟩ := (show SlC w7 v L from Own.sl (enc := encC) encC_len tv.own).form
    clear tv hE b0 b1 b2 bf bl r0 r1 r2 rf rl E3
    dsimp only [valM]
    obtain ⟨b0, b1, b2, bf, bl⟩ := B1.out.c3
    go_upto_region 6 with (fail)
    obtain ⟨w8, hw8⟩ : ∃ w8, w8 = ((((w7.setCell ⟨w.heap.size, 0, none⟩ (.int .i64 lots)).setCell ⟨w.heap.size, 1, none⟩ (.int .i64 size)).setCell ⟨w.heap.size, 2, none⟩ (.slice A2 n2 c2)).setCell ⟨w.heap.size, 0, none⟩ (.int .i64 la)).setCell ⟨w.heap.size, 1, none⟩ (.int .i64 sb) := ⟨_, rfl⟩
    rw [← hw8]
    have hG8 : w7.grownBy w8 (some w.heap.size) := hw8 ▸ grown_set (grown_set (grown_set (grown_set (grown_set (World.grownBy.refl _ _) (p := ⟨w.heap.size, 0, none⟩) (.inl rfl) _) (p := ⟨w.heap.size, 1, none⟩) (.inl rfl) _) (p := ⟨w.heap.size, 2, none⟩) (.inl rfl) _) (p := ⟨w.heap.size, 0, none⟩) (.inl rfl) _) (p := ⟨w.heap.size, 1, none⟩) (.inl rfl) _
    have OF8 := Lib.hid (offX_grown B1.out hG8)
    have D1 := Lib.hid (show Blk w8 w.heap.size 24 #[.int .i64 la, .int .i64 sb, .slice A2 n2 c2] by
      rw [hw8]; have h := ((((B1.out.set_ 0 (.int .i64 lots)).set_ 1 (.int .i64 size)).set_ 2 (.slice A2 n2 c2)).set_ 0 (.int .i64 la)).set_ 1 (.int .i64 sb); simpa using h)
    have DR := Lib.hid (BR.out.grown hG8 (by intro e; injection e with e; omega))
    have E8 := Lib.hid (ext_grownP E7.out hG8 (Nat.le_refl _))
    have TW8 := Lib.hid (TW.out.offX OF8.out)
    clear hw8 hG8 OF8 b0 b1 b2 bf bl B1 BR TW E7
    obtain ⟨b0, b1, b2, bf, bl⟩ := D1.out.c3
    go_wp2_with fail
    refine (checkM_any la sb L _ _ (HT.out.ext E8.out) TW8.out.mlc HLL.out).mono ?_
    rintro e w10 ⟨rfl, hE⟩
    rw [show mOf la sb L = wantM (mOf lots size l) la sb by unfold wantM; show (⟨la, sb, L.map (·.c)⟩ : Mll) = _; rw [TW8.out.map]]
    have TWL := Lib.hid (TW8.out.ext hE)
    replace D1 := Lib.hid (D1.out.ext hE); replace DR := Lib.hid (DR.out.ext hE)
    have E10 := Lib.hid (E8.out.trans hE)
    clear hE b0 b1 b2 bf bl E8 TW8
    obtain ⟨b0, b1, b2, bf, bl⟩ := D1.out.c3
    obtain ⟨r0, r1, r2, rf, rl⟩ := DR.out.c3
    cases hc2 : checkM (wantM (mOf lots size l) la sb) with
    | false =>
      have HPE := Lib.hid (show wantME (mOf lots size l) la sb = 94 by unfold wantME; rw [HC.out, hc2]; rfl)
      simp only [errB]
      clear hc2
      go_wp2
      refine ret_set3N (DR.out) fun W' ⟨z0, z1, z2⟩ hW => ?_
      refine bodyPost_ret (v := .tuple #[valM 0 0 (.slice none 0 0), .int .i64 (94)]) (by simp only [results, Tryz.results44]; simp [go_sem, z0, z1, z2]) rfl ?_
      exact ⟨⟨_, by rw [HPE.out], .inr ⟨by rw [HPE.out]; decide, rfl⟩⟩, ext_grownP (E10.out) hW (by omega)⟩
    | true =>
      have HPE := Lib.hid (show wantME (mOf lots size l) la sb = 0 by unfold wantME; rw [HC.out, hc2]; rfl)
      simp only [errB]
      clear hc2
      go_wp2
      refine ret_set3N DR.out fun W' ⟨z0, z1, z2⟩ hW => ?_
      refine bodyPost_ret (v := .tuple #[valM la sb (.slice A2 n2 c2), .int .i64 0]) (by simp only [results, Tryz.results44]; simp [go_sem, z0, z1, z2]) rfl ?_
      exact ⟨⟨valM la sb (.slice A2 n2 c2), by rw [HPE.out], .inl ⟨HPE.out, _, _, rfl, (TWL.out.offX (offX_grown DR.out hW)).mono (by have := HZ3.out; omega)⟩⟩, ext_grownP E10.out hW (by omega)⟩
end Go.Proofs.YtkpengeaolcjhaaGreatDoor
/- mill.Fit; the reference's Check, Best, Even. -/
namespace Go.Proofs.YtkpengeaolcjhaaGreatDoor
open Go.RowKit Go.Shelf Go.Lib
set_option maxRecDepth 100000
set_option linter.unusedSimpArgs false

set_option maxHeartbeats 2000000 in
theorem fitM_any (lots size : Int) (l : List Rc) (sv : Value) (w : World) (hT : TabM w) (hs : MlC w sv l) (hlen : l.length ≤ 1000) :
    Calls Tryz.prog 35 #[valM lots size sv] w fun e w' => (∃ v, e = .returned (.tuple #[v, .int .i64 (errB (checkM (mOf lots size l)) 90)]) ∧ SlI w' v (fitR (mOf lots size l))) ∧ Ext w w' := by
  have HS := Lib.hid hs; have HT := Lib.hid hT; have HLN := Lib.hid hlen
  obtain ⟨A, n, c, rfl, hn, hlc, hcm⟩ := hs.1.form
  have HL := Lib.hid (show l.length = n from hn.out.symm)
  have hnb : n ≤ 1000 := by have := hn.out; omega
  clear hs hT hn hlen
  go_enter Tryz.func35, Tryz.ntmps35
  go_wp2_with fail
  refine (checkM_any lots size l _ _ (HT.out.ext (Ext.al _ _)) (HS.out.ext (Ext.al _ _)) HLN.out).mono ?_
  rintro e w1 ⟨rfl, hE⟩
  have HE1 := Lib.hid ((Ext.al w (.cells #[.int .i64 lots, .int .i64 size, .slice A n c] 24)).trans hE)
  have HB1 := Lib.hid ((Blk.new w 24 #[.int .i64 lots, .int .i64 size, .slice A n c]).ext hE)
  obtain ⟨b0, b1, b2, bf, bl⟩ := HB1.out.c3
  clear hE
  cases hc : checkM (mOf lots size l)
  · have HC := Lib.hid hc
    simp only [errB]
    clear hc
    go_wp2
    go_ret2
    exact ⟨⟨.slice none 0 0, by rw [HC.out]; rfl, by rw [fitR_no HC.out]; exact Sl.nil _⟩, HE1.out⟩
  have HC := Lib.hid hc
  simp only [errB]
  clear hc
  go_wp2_with fail
  refine (laid_any lots size l _ _ (HT.out.1.ext HE1.out) (HS.out.ext HE1.out) HLN.out).mono ?_
  rintro e w2 ⟨⟨m, nn, rfl, -, -, hmp⟩, hE⟩
  have HE2 := Lib.hid (HE1.out.trans hE); have HMP := Lib.hid hmp
  have HB2 := Lib.hid (HB1.out.ext hE)
  clear hE hmp b0 b1 b2 bf bl
  obtain ⟨b0, b1, b2, bf, bl⟩ := HB2.out.c3
  go_wp2_with fail
  obtain ⟨w3, hw3⟩ : ∃ w3, w3 = w2.alloc (.cells #[.int .i64 lots, .int .i64 size, .slice A n c, .map (some m)] 95) := ⟨_, rfl⟩
  rw [← hw3]
  have HE3 := Lib.hid (show Ext w w3 from hw3 ▸ HE2.out.alloc _)
  have HT3 := Lib.hid (show Blk w3 w2.heap.size 95 #[.int .i64 lots, .int .i64 size, .slice A n c, .map (some m)] from hw3 ▸ Blk.new _ _ _)
  have HMP3 := Lib.hid (show MapB w3 m nn (fitTo l l.length) from hw3 ▸ HMP.out.ext (Ext.al _ _))
  clear hw3 b0 b1 b2 bf bl
  refine (ids_any lots size l _ _ (HS.out.1.ext HE3.out) HLN.out).mono ?_
  rintro e w4 ⟨⟨iv, rfl, hiv⟩, hE⟩
  have HE4 := Lib.hid (HE3.out.trans hE)
  have HT4 := Lib.hid (HT3.out.ext hE)
  have HMP4 := Lib.hid (HMP3.out.ext hE)
  have hsi : SlI w4 iv (l.map (·.c.b.id)) := hiv.sl (fun _ => rfl)
  obtain ⟨Ai, ni, ci, rfl, hni, hli, hci⟩ := hsi.form
  have HSI := Lib.hid hsi
  obtain rfl : ni = n := by have := hni.out; rw [List.length_map] at this; have := HL.out; omega
  clear hE hiv hsi hni
  go_wp2
  go_loopg [6, 19] ni (fun gg s6 s19 wr => ∃ kk : Nat, kk ≤ ni ∧ ni - kk ≤ gg ∧ s19 = .int .i64 (kk : Int) ∧ Aside (Own encI 3 1 wr w4.heap.size s6 (fitIds ((l.take kk).map (·.c)))) ∧ Aside (Ext w4 wr))
  case atStart => exact ⟨0, by omega, by omega, by simp, Own.nil _ _, Ext.refl _⟩
  case round =>
    obtain ⟨kk, hkk, hgg, rfl, OW, HW⟩ := hrel
    by_cases hlt : kk < ni
    · have hltz : (kk : Int) < (ni : Int) := by omega
      have hin : In64 (kk : Int) := by unfold In64; omega
      obtain ⟨x, hx⟩ : ∃ x, l[kk]? = some x := ⟨_, List.getElem?_eq_getElem (by have := HL.out; omega)⟩
      obtain ⟨bi, offi, y, rfl, hy, hb, hcell⟩ := HSI.out.at_ hlt
      obtain rfl : x.c.b.id = y := by rw [List.getElem?_map, hx] at hy; simpa using hy
      have c0 := SlI.cell hcell HW.out
      have lk := (HMP4.out.ext HW.out).look hin
      rw [fitTo_at hx] at lk
      obtain ⟨t0, t1, t2, t3, tf, tl⟩ := (HT4.out.ext HW.out).c4
      have HTK := Lib.hid (show fitIds ((l.take (kk + 1)).map (·.c)) = fitIds ((l.take kk).map (·.c)) ++ (if fitB x.c then [x.c.b.id] else []) by rw [List.take_add_one, hx, List.map_append]; exact idsL_cons _ _)
      have HLB := Lib.hid (show (fitIds ((l.take kk).map (·.c))).length < 100000000000 by
        have h1 : (fitIds ((l.take kk).map (·.c))).length ≤ ((l.take kk).map (·.c)).length := by unfold fitIds; rw [List.length_map]; exact List.length_filter_le _ _
        rw [List.length_map, List.length_take] at h1; omega)
      generalize fitIds ((l.take kk).map (·.c)) = L0 at *
      clear hcell hx hy
      cases hfx : fitB x.c
      · have HX := Lib.hid hfx
        rw [hfx] at lk
        have HT2 := Lib.hid (show fitIds ((l.take (kk + 1)).map (·.c)) = L0 by rw [HTK.out, HX.out]; simp)
        clear hfx
        go_wp2
        go_roundg (ni - (kk + 1))
        case measure => omega
        case rel => exact ⟨kk + 1, by omega, by omega, by simp, by rw [HT2.out]; exact OW.out, HW.out⟩
      · have HX := Lib.hid hfx
        rw [hfx] at lk
        have HT2 := Lib.hid (show fitIds ((l.take (kk + 1)).map (·.c)) = L0 ++ [x.c.b.id] by rw [HTK.out, HX.out]; simp)
        clear hfx
        go_wp2_with (at_builtin; refine wpList_app encI 36 3 1 _ 8 Tryz.underlying36 info3x rfl (by decide) (by decide) (fun _ => rfl) encI_one rfl (.tmp 28) (.tmp 30) rfl w4.heap.size _ L0 rfl (OW.out.alloc _) wr.heap.size 1 x.c.b.id rfl (cells1 (by simp [go_sem])) HLB.out (by have := HW.out.size; simp; omega) ?_)
        intro g cap w' hown hg2 hbel _
        rw [← HT2.out] at hown
        have HO := Lib.hid hown
        have HB := Lib.hid (show Ext w4 w' from Below.trans (HW.out.alloc _) hbel)
        clear hown hbel
        go_wp2
        go_roundg (ni - (kk + 1))
        case measure => omega
        case rel => exact ⟨kk + 1, by omega, by omega, by simp, HO.out, HB.out⟩
    · have HE := Lib.hid (show kk = ni by omega)
      have hO := Own.sl (enc := encI) (fun _ => rfl) OW.out
      rw [List.take_of_length_le (by have := HE.out; have := HL.out; omega)] at hO
      have HO := Lib.hid hO
      clear hO
      go_wp2
      go_ret2
      exact ⟨⟨_, by rw [HC.out]; rfl, by rw [fitR_yes HC.out]; exact HO.out⟩, HE4.out.trans HW.out⟩

end Go.Proofs.YtkpengeaolcjhaaGreatDoor
/- Which plans are allowed: plain. -/
namespace Go.Proofs.YtkpengeaolcjhaaGreatDoor
open Go.RowKit Go.Shelf
set_option linter.unusedSimpArgs false

def fitOk (p : List Int) (fit : List Bool) : Bool := (p.zip fit).all fun x => !decide (0 < x.1) || x.2
/-- The plan is allowed. -/
def okPlan (m : Mll) (p : List Int) : Bool :=
  decide (p.length = m.cots.length) && (p.all (inB 0 m.lots) && (fitOk p (fitL m) && decide ([inLot p 1, inLot p 2, inLot p 3] = fullF m.lots.toNat m.size)))
def judgeE (m : Mll) (p : List Int) : Int := if checkM m then (if okPlan m p then 0 else 91) else 90
theorem inLot_nil (lot : Int) : inLot [] lot = 0 := rfl
theorem plansF_of {lots : Nat} {size : Int} (hl : lots ≤ 3) : ∀ {fit : List Bool} {f p : List Int}, f.length = 3 → p.length = fit.length → (∀ x ∈ p, 0 ≤ x ∧ x ≤ (lots : Int)) → fitOk p fit = true →
    (∀ i : Nat, i < 3 → f[i]?.getD 0 + inLot p ((i : Int) + 1) = if i < lots then size else 0) → p ∈ plansF lots size fit f
  | [], f, p, hf, hp, _, _, hc => by
    obtain rfl : p = [] := List.length_eq_zero_iff.1 (by simpa using hp)
    unfold plansF
    have e : f = fullF lots size := by
      match f, hf with
      | [a, b, c], _ =>
        have h0 := hc 0 (by decide)
        have h1 := hc 1 (by decide)
        have h2 := hc 2 (by decide)
        simp [inLot_nil] at h0 h1 h2
        subst h0 h1 h2
        rfl
    rw [if_pos e]
    simp
  | b :: r, f, p, hf, hp, hr, hk, hc => by
    match p, hp with
    | a :: q, hp =>
      have ha := hr a (by simp)
      unfold plansF
      rw [List.mem_flatMap]
      have hinq : ∀ lot, 0 ≤ inLot q lot := fun lot => by unfold inLot; omega
      have hk0 : (!decide (0 < a) || b) = true ∧ fitOk q r = true := by
        unfold fitOk at hk ⊢
        simpa only [List.zip_cons_cons, List.all_cons, Bool.and_eq_true] using hk
      refine ⟨a.toNat, List.mem_range.2 (by omega), ?_⟩
      have hok : okLot size b f a.toNat = true := by
        unfold okLot
        by_cases h0 : a = 0
        · simp [h0]
        · have hb : b = true := by have := hk0.1; simp at this; rcases this with h | h
                                   · omega
                                   · exact h
          have h3 := hc (a.toNat - 1) (by omega)
          rw [inLot_cons, if_pos (by omega), if_pos (by omega)] at h3
          have := hinq (((a.toNat - 1 : Nat) : Int) + 1)
          subst hb
          simp
          right
          omega
      rw [if_pos hok, List.mem_map]
      refine ⟨q, plansF_of hl (by rw [upF_len, hf]) (by simpa using hp) (fun x hx => hr x (by simp [hx])) hk0.2 (fun i hi => ?_), by simp; omega⟩
      rw [← hc i hi, inLot_cons]
      unfold upF
      by_cases h0 : a.toNat = 0
      · rw [if_pos h0, if_neg (by omega)]
        omega
      · rw [if_neg h0, List.getElem?_set]
        by_cases he : a.toNat - 1 = i
        · subst he
          rw [if_pos rfl, if_pos (by omega), if_pos (by omega)]
          simp
          omega
        · rw [if_neg he, if_neg (by omega)]
          omega
theorem inB_iff {lo hi n : Int} : inB lo hi n = true ↔ lo ≤ n ∧ n ≤ hi := by unfold inB; simp
theorem plan_of_ok {m : Mll} (hm : Mok m) {p : List Int} (h : okPlan m p = true) : p ∈ plansL m := by
  unfold okPlan at h
  simp only [Bool.and_eq_true, decide_eq_true_eq, List.all_eq_true] at h
  obtain ⟨h1, h2, h3, h4⟩ := h
  have := hm.l1; have := hm.l3
  have e : [inLot p 1, inLot p 2, inLot p 3] = [if 0 < m.lots.toNat then m.size else 0, if 1 < m.lots.toNat then m.size else 0, if 2 < m.lots.toNat then m.size else 0] := h4
  simp only [List.cons.injEq, and_true] at e
  refine plansF_of (by omega) rfl (by rw [h1]; simp [fitL]) (fun x hx => by have := inB_iff.1 (h2 x hx); omega) h3 fun i hi => ?_
  match i, hi with
  | 0, _ => simpa using e.1
  | 1, _ => simpa using e.2.1
  | 2, _ => simpa using e.2.2
/-! The counts after some bales. -/
def cntP (p : List Int) (k : Nat) (lot : Int) : Int := inLot (p.take k) lot
theorem inLot_snoc (p : List Int) (a lot : Int) : inLot (p ++ [a]) lot = inLot p lot + (if a = lot then 1 else 0) := by
  unfold inLot
  rw [List.filter_append, List.length_append]
  by_cases h : a = lot
  · subst h; simp
  · simp [h]
theorem cntP_succ {p : List Int} {k : Nat} {a : Int} (h : p[k]? = some a) (lot : Int) : cntP p (k + 1) lot = cntP p k lot + (if a = lot then 1 else 0) := by
  unfold cntP
  rw [List.take_add_one, h]
  exact inLot_snoc _ _ _
theorem cntP_full {p : List Int} {k : Nat} (h : p.length ≤ k) (lot : Int) : cntP p k lot = inLot p lot := by unfold cntP; rw [List.take_of_length_le h]
theorem cntP_bd (p : List Int) (k : Nat) (lot : Int) : 0 ≤ cntP p k lot ∧ cntP p k lot ≤ k := by
  unfold cntP inLot
  have h1 := List.length_filter_le (fun x => x == lot) (p.take k)
  have h2 := List.length_take_le k p
  omega
theorem fitOk_no {p : List Int} {fit : List Bool} {k : Nat} {a : Int} {b : Bool} (h1 : p[k]? = some a) (h2 : fit[k]? = some b) (h3 : 0 < a) (h4 : b = false) : fitOk p fit = false := by
  unfold fitOk
  rw [List.all_eq_false]
  refine ⟨(a, b), ?_, by simp [h3, h4]⟩
  apply List.mem_of_getElem? (i := k)
  rw [List.getElem?_zip_eq_some]
  exact ⟨h1, h2⟩
theorem fitOk_yes {p : List Int} {fit : List Bool} (h : ∀ (k : Nat) (a : Int) (b : Bool), p[k]? = some a → fit[k]? = some b → 0 < a → b = true) : fitOk p fit = true := by
  unfold fitOk
  rw [List.all_eq_true]
  intro x hx
  obtain ⟨k, hk⟩ := List.getElem?_of_mem hx
  rw [List.getElem?_zip_eq_some] at hk
  have := h k x.1 x.2 hk.1 hk.2
  by_cases h0 : 0 < x.1
  · simp [h0, this h0]
  · simp [h0]
theorem judgeE_no {m : Mll} {p : List Int} (h : checkM m = false) : judgeE m p = 90 := by unfold judgeE; rw [h]; rfl
theorem judgeE_bad {m : Mll} {p : List Int} (h : checkM m = true) (h2 : okPlan m p = false) : judgeE m p = 91 := by unfold judgeE; rw [h, h2]; rfl
theorem judgeE_ok {m : Mll} {p : List Int} (h : checkM m = true) (h2 : okPlan m p = true) : judgeE m p = 0 := by unfold judgeE; rw [h, h2]; rfl
theorem okPlan_len {m : Mll} {p : List Int} (h : ¬ p.length = m.cots.length) : okPlan m p = false := by unfold okPlan; rw [decide_eq_false h]; rfl
theorem okPlan_in {m : Mll} {p : List Int} (h : p.all (inB 0 m.lots) = false) : okPlan m p = false := by unfold okPlan; rw [h]; simp
theorem okPlan_fit {m : Mll} {p : List Int} (h : fitOk p (fitL m) = false) : okPlan m p = false := by unfold okPlan; rw [h]; simp
theorem okPlan_cnt {m : Mll} {p : List Int} (h : ¬ [inLot p 1, inLot p 2, inLot p 3] = fullF m.lots.toNat m.size) : okPlan m p = false := by unfold okPlan; rw [decide_eq_false h]; simp
theorem okPlan_yes {m : Mll} {p : List Int} (h1 : p.length = m.cots.length) (h2 : p.all (inB 0 m.lots) = true) (h3 : fitOk p (fitL m) = true) (h4 : [inLot p 1, inLot p 2, inLot p 3] = fullF m.lots.toNat m.size) : okPlan m p = true := by
  unfold okPlan; rw [decide_eq_true h1, h2, h3, decide_eq_true h4]; rfl
end Go.Proofs.YtkpengeaolcjhaaGreatDoor
/- The bound is shown: so many lots can be made of lengths that differ by L at the most just if a plan is as even as that. No program in sight. -/
namespace Go.Proofs.YtkpengeaolcjhaaGreatDoor
set_option linter.unusedSimpArgs false

/-! From labels to groups. -/
/-! From groups to labels. -/
/-! Labels and plans. -/
/-- The fit bales' lengths. -/
def fitLens (m : Mll) : List Int := (m.cots.filter fitB).map (·.len)
theorem fitOk_cons {a : Int} {p : List Int} {b : Bool} {r : List Bool} : fitOk (a :: p) (b :: r) = ((!decide (0 < a) || b) && fitOk p r) := by unfold fitOk; rw [List.zip_cons_cons, List.all_cons]
theorem lotL_cons (a v : Int) (p vs : List Int) (lot : Int) : lotL (a :: p) (v :: vs) lot = (if a = lot then [v] else []) ++ lotL p vs lot := by
  unfold lotL
  rw [List.zip_cons_cons, List.filter_cons]
  by_cases h : a = lot
  · simp [h]
  · simp [h]
/-! How far numbers differ. -/
theorem foldZ_max_mem : ∀ (l : List Int) (a : Int), l.foldl max a = a ∨ l.foldl max a ∈ l
  | [], a => .inl rfl
  | x :: l, a => by
    rw [List.foldl_cons]
    rcases foldZ_max_mem l (max a x) with h | h
    · rw [h]
      by_cases hx : a ≤ x
      · right; rw [show max a x = x by omega]; simp
      · left; omega
    · right; simp [h]
theorem foldZ_min_mem : ∀ (l : List Int) (a : Int), l.foldl min a = a ∨ l.foldl min a ∈ l
  | [], a => .inl rfl
  | x :: l, a => by
    rw [List.foldl_cons]
    rcases foldZ_min_mem l (min a x) with h | h
    · rw [h]
      by_cases hx : a ≤ x
      · left; omega
      · right; rw [show min a x = x by omega]; simp
    · right; simp [h]
theorem foldZ_max_ge : ∀ (l : List Int) (a x : Int), x ∈ l → x ≤ l.foldl max a
  | [], a, x, h => by simp at h
  | y :: l, a, x, h => by
    rw [List.foldl_cons]
    rcases List.mem_cons.1 h with rfl | h
    · exact Int.le_trans (Int.le_max_right a x) (foldlM_max_le l _)
    · exact foldZ_max_ge l _ x h
theorem foldZ_min_ge : ∀ (l : List Int) (a x : Int), x ∈ l → l.foldl min a ≤ x
  | [], a, x, h => by simp at h
  | y :: l, a, x, h => by
    rw [List.foldl_cons]
    rcases List.mem_cons.1 h with rfl | h
    · exact Int.le_trans (foldlM_min_le l _) (Int.min_le_right a x)
    · exact foldZ_min_ge l _ x h
theorem farL_ge {l : List Int} {x y : Int} (hx : x ∈ l) (hy : y ∈ l) : y - x ≤ farL l := by
  cases l with
  | nil => simp at hx
  | cons a l =>
    unfold farL maxO minO
    have h1 : y ≤ l.foldl max a := by
      rcases List.mem_cons.1 hy with rfl | h
      · exact foldlM_max_le l _
      · exact foldZ_max_ge l a y h
    have h2 : l.foldl min a ≤ x := by
      rcases List.mem_cons.1 hx with rfl | h
      · exact foldlM_min_le l _
      · exact foldZ_min_ge l a x h
    dsimp only
    omega
theorem farL_le {l : List Int} {L : Int} (h0 : 0 ≤ L) (h : ∀ x ∈ l, ∀ y ∈ l, y - x ≤ L) : farL l ≤ L := by
  cases l with
  | nil => exact h0
  | cons a l =>
    unfold farL maxO minO
    dsimp only
    have h1 : l.foldl max a ∈ a :: l := by rcases foldZ_max_mem l a with h | h <;> simp [h]
    have h2 : l.foldl min a ∈ a :: l := by rcases foldZ_min_mem l a with h | h <;> simp [h]
    exact h _ h2 _ h1
theorem farA_ge : ∀ (ll : List (List Int)) (u : Int), u ≤ ll.foldl (fun n l => max n (farL l)) u ∧ ∀ l ∈ ll, farL l ≤ ll.foldl (fun n l => max n (farL l)) u
  | [], u => ⟨Int.le_refl _, fun l h => by simp at h⟩
  | x :: ll, u => by
    obtain ⟨h1, h2⟩ := farA_ge ll (max u (farL x))
    rw [List.foldl_cons]
    refine ⟨by omega, fun l hl => ?_⟩
    rcases List.mem_cons.1 hl with rfl | hl
    · omega
    · exact h2 l hl
theorem farA_le {L : Int} : ∀ (ll : List (List Int)) (u : Int), u ≤ L → (∀ l ∈ ll, farL l ≤ L) → ll.foldl (fun n l => max n (farL l)) u ≤ L
  | [], u, h0, _ => h0
  | x :: ll, u, h0, h => by
    rw [List.foldl_cons]
    exact farA_le ll _ (by have := h x (by simp); omega) fun l hl => h l (by simp [hl])

/-! The plans and the groups. -/
theorem plansF_fit {lots : Nat} {size : Int} : ∀ {fit : List Bool} {f p : List Int}, p ∈ plansF lots size fit f → fitOk p fit = true
  | [], f, p, h => by
    unfold plansF at h
    split at h
    · simp at h; subst h; rfl
    · simp at h
  | b :: r, f, p, h => by
    unfold plansF at h
    rw [List.mem_flatMap] at h
    obtain ⟨lot, hlot, h⟩ := h
    split at h
    · rename_i hk
      rw [List.mem_map] at h
      obtain ⟨q, hq, rfl⟩ := h
      rw [fitOk_cons, plansF_fit hq]
      unfold okLot at hk
      rcases Bool.eq_false_or_eq_true b with hb | hb
      · simp [hb]
      · rw [hb] at hk
        simp at hk
        simp [hk]
    · simp at h
def lotsJ (n : Nat) : List Int := (List.range n).map fun (i : Nat) => (i : Int) + 1
theorem lotsJ_mem {n : Nat} {j : Int} : j ∈ lotsJ n ↔ 1 ≤ j ∧ j ≤ (n : Int) := by
  unfold lotsJ
  rw [List.mem_map]
  constructor
  · rintro ⟨i, hi, rfl⟩
    rw [List.mem_range] at hi
    omega
  · rintro ⟨h1, h2⟩
    exact ⟨(j - 1).toNat, by rw [List.mem_range]; omega, by omega⟩
theorem lotsJ_nodup (n : Nat) : (lotsJ n).Nodup := by
  unfold lotsJ List.Nodup
  rw [List.pairwise_map]
  exact (List.nodup_range (n := n)).imp fun h => by omega
theorem lotsJ_len (n : Nat) : (lotsJ n).length = n := by unfold lotsJ; simp
theorem sorted_uniq {a b : List Int} (hp : a.Perm b) (ha : a.Pairwise (· ≤ ·)) (hb : b.Pairwise (· ≤ ·)) : a = b := hp.eq_of_pairwise (fun _ _ _ _ h1 h2 => Int.le_antisymm h1 h2) ha hb
end Go.Proofs.YtkpengeaolcjhaaGreatDoor
