/- core.Ask. -/
import Derived.Test.YtcoiahjehlplfaaDoorCut
import Derived.Test.YtcoiahjehlplfaaDoorRKindB
namespace Go.Proofs.YtcoiahjehlplfaaDoor
open Go.RowKit Go.Shelf Go.Lib
set_option maxRecDepth 100000
set_option linter.unusedSimpArgs false

abbrev shown (j : Nat) (n : Int) : List Int := [0, 0, 0, 0, 0].set j n
/-- How many kinds are left when a layer shows a grade. -/
def numK (sp : List Span) (j : Nat) (n : Int) : Int := ((kindsOf (truthsL (sp.zip (shown j n)))).num : Nat)
def wst (f : Int → Int) (lo : Int) : Nat → Int
  | 0 => 0
  | k + 1 => max (wst f lo k) (f (lo + (k : Int)))
def layN (f : Nat → Int → Int) (sp : List Span) (j : Nat) : Int := match sp[j]? with | some x => wst (f j) x.lo (x.hi - x.lo + 1).toNat | none => 0
def askTo (f : Nat → Int → Int) (sp : List Span) (most : Int) : Nat → Int × Int
  | 0 => (0, most)
  | j + 1 => if layN f sp j < (askTo f sp most j).2 then ((j : Int), layN f sp j) else askTo f sp most j
def askS (b : Bale) : Int × Int := askTo (numK (spans b)) (spans b) 5 (spans b).length
def askB (b : Bale) : Int × Int := if askE b true 0 = 0 then askS b else (0, 0)
theorem numK_bd (sp : List Span) (j : Nat) (n : Int) : 0 ≤ numK sp j n ∧ numK sp j n ≤ 4 := by
  unfold numK; have := S4.num_le (kindsOf (truthsL (sp.zip (shown j n)))); omega
theorem wst_bd {f : Int → Int} (h : ∀ n, 0 ≤ f n ∧ f n ≤ 4) (lo : Int) : ∀ k, 0 ≤ wst f lo k ∧ wst f lo k ≤ 4
  | 0 => by simp [wst]
  | k + 1 => by have := wst_bd h lo k; have := h (lo + k); unfold wst; omega

set_option maxHeartbeats 4000000 in
theorem ask_any (b : Bale) (dv wv : Value) (w : World) (hT : Tab w) (hd : SlD w dv b.draws) (hw : SlW w wv b.weighs) :
    Calls Tryd.prog 34 #[valB b dv wv] w fun e w' => e = .returned (.tuple #[.int .i64 (askB b).1, .int .i64 (askB b).2, .int .i64 (askE b true 0)]) ∧ Ext w w' := by
  have HT := Lib.hid hT
  have HD := Lib.hid hd
  have HW := Lib.hid hw
  obtain ⟨A, n, cp, rfl, hn, hlc, hcm⟩ := hd.form
  obtain ⟨A2, n2, cp2, rfl, hn2, hlc2, hcm2⟩ := hw.form
  clear hd hw hT
  go_enter Tryd.func34, Tryd.ntmps34
  go_wp2_with fail
  refine (asked_nil b _ _ _ (HT.out.ext (Ext.al _ _)) (HD.out.ext (Ext.al _ _)) (HW.out.ext (Ext.al _ _))).mono ?_
  rintro e w1 ⟨pv, rfl, hpv, hpz, hE⟩
  have HEW := Lib.hid ((Ext.al w _).trans hE)
  clear hE
  by_cases hz9 : askE b true 0 = 0
  · obtain ⟨sv, lv, rfl, hs, hl⟩ := hpv hz9
    obtain ⟨h1, h3⟩ : valid b = true ∧ okB b = true := by
      unfold askE at hz9
      split at hz9
      · simp at hz9; exact ⟨by assumption, hz9⟩
      · cases hz9
    have hb5 := valid_bds h1
    obtain ⟨Al, nl, cl, rfl, hnl, hlc', hlm⟩ := hl.form
    have hln := spans_len b
    have hl0 : 0 < (spans b).length := by have := hb5.l1; omega
    have hl5 : (spans b).length ≤ 5 := by have := hb5.l5; omega
    obtain ⟨As, cs, rfl, hsc, hsm, hcx⟩ := id hs
    obtain ⟨bs, os, rfl, hbs, -⟩ := hcx hl0
    have HBD := Lib.hid (show ∀ x ∈ spans b, 1 ≤ x.lo ∧ x.lo ≤ 9 ∧ x.hi ≤ 9 ∧ 1 ≤ x.hi from fun x hx => spans_bd h1 x hx)
    have HK := Lib.hid (show askB b = askTo (numK (spans b)) (spans b) 5 (spans b).length by unfold askB; rw [if_pos hz9]; rfl)
    have HZ := Lib.hid hz9
    have HS := Lib.hid hs
    have HMA := Lib.hid (fun W s0 s1 s2 s3 s4 hS => kinds_any b (.slice A n cp) (.slice A2 n2 cp2) (.slice Al nl cl) bs os cs (spans b) s0 s1 s2 s3 s4 W hl5 hl0 (fun x hx => by have := spans_bd h1 x hx; omega) hS)
    have HL5 := Lib.hid hl5
    generalize hsp : spans b = sp at *
    rw [hz9]
    dsimp only [valP]
    have HBP := Lib.hid (Blk.new w1 82 #[.int .i64 b.id, .int .i64 b.layers, .int .i64 b.dry.lo, .int .i64 b.dry.hi, .slice A n cp, .slice A2 n2 cp2, .slice (some ⟨bs, os, none⟩) sp.length cs, .slice Al nl cl])
    clear hz9 hs hl hsc hsm hcx hb5 h1 h3 hpv hpz hsp hln hl0 hl5 hbs
    go_wp2
    go_loopg [2, 3, 6, 7, 8, 9, 10, 22] sp.length (fun gg s2 s3 _ _ _ _ _ s22 wr => ∃ (j : Nat) (at' few : Int), j ≤ sp.length ∧ sp.length - j ≤ gg ∧ s22 = .int .i64 j ∧ s2 = .int .i64 at' ∧ s3 = .int .i64 few ∧ Aside (askTo (numK sp) sp 5 j = (at', few)) ∧ Aside (Ext (w1.alloc (.cells #[.int .i64 b.id, .int .i64 b.layers, .int .i64 b.dry.lo, .int .i64 b.dry.hi, .slice A n cp, .slice A2 n2 cp2, .slice (some ⟨bs, os, none⟩) sp.length cs, .slice Al nl cl] 82)) wr))
    case atStart => exact ⟨0, 0, 5, by omega, by omega, rfl, rfl, rfl, rfl, Ext.refl _⟩
    case round =>
      obtain ⟨j, at', few, hj, hgg, rfl, rfl, rfl, HA, EX⟩ := hrel
      by_cases hjn : j < sp.length
      · have hjz : (j : Int) < (sp.length : Int) := by omega
        obtain ⟨bb, off, x, e1, hx, hbb, hxc⟩ := HS.out.at_ hjn
        injection e1 with e1
        injection e1 with e1 e2
        subst e1 e2
        obtain ⟨c0, c1⟩ := SlS.cells hxc ((Ext.al _ _).trans EX.out)
        have hxb := HBD.out x (List.mem_of_getElem? hx)
        have HLN := Lib.hid (show layN (numK sp) sp j = wst (numK sp j) x.lo (x.hi - x.lo + 1).toNat by unfold layN; rw [hx])
        have hj5 : j < 5 := by have := HL5.out; omega
        generalize hN : (x.hi - x.lo + 1).toNat = N at *
        obtain ⟨wo, hwo⟩ : ∃ wo : World, wo = wr := ⟨_, rfl⟩
        subst hwo
        clear hx hxc
        go_wp2
        go_loopg [8, 9, 10] N (fun gg s8 s9 _ wr => ∃ q : Nat, q ≤ N ∧ N - q ≤ gg ∧ s9 = .int .i64 (x.lo + (q : Int)) ∧ s8 = .int .i64 (wst (numK sp j) x.lo q) ∧ Aside (Blk wr wo.heap.size 23 #[.int .i64 x.lo, .int .i64 x.hi]) ∧ Aside (Ext (w1.alloc (.cells #[.int .i64 b.id, .int .i64 b.layers, .int .i64 b.dry.lo, .int .i64 b.dry.hi, .slice A n cp, .slice A2 n2 cp2, .slice (some ⟨bs, os, none⟩) sp.length cs, .slice Al nl cl] 82)) wr))
        case atStart => exact ⟨0, by omega, by omega, by simp, rfl, Blk.new _ _ _, EX.out.alloc _⟩
        case round =>
          clear c0 c1
          obtain ⟨q, hq, hgq, rfl, rfl, BX, EX2⟩ := hrel
          have z1 := BX.out.cell 1
          have zl := BX.out.lt
          simp at z1
          have HBPW := Lib.hid (HBP.out.ext EX2.out)
          have y0 := HBPW.out.cell 0
          have y1 := HBPW.out.cell 1
          have y2 := HBPW.out.cell 2
          have y3 := HBPW.out.cell 3
          have y4 := HBPW.out.cell 4
          have y5 := HBPW.out.cell 5
          have y6 := HBPW.out.cell 6
          have y7 := HBPW.out.cell 7
          have yl := HBPW.out.lt
          simp at y0 y1 y2 y3 y4 y5 y6 y7
          by_cases hqN : q < N
          · have hle : x.lo + (q : Int) ≤ x.hi := by omega
            have HWS := Lib.hid (show wst (numK sp j) x.lo (q + 1) = max (wst (numK sp j) x.lo q) (numK sp j (x.lo + (q : Int))) from rfl)
            have hwb := wst_bd (numK_bd sp j) x.lo q
            have hnb := numK_bd sp j (x.lo + (q : Int))
            have hj' : j = 0 ∨ j = 1 ∨ j = 2 ∨ j = 3 ∨ j = 4 := by omega
            rcases hj' with rfl | rfl | rfl | rfl | rfl
            · go_wp2_with fail
              refine (HMA.out _ (x.lo + (q : Int)) 0 0 0 0 (HS.out.ext (((Ext.al _ _).trans EX2.out).trans (Ext.al _ _)))).mono ?_
              rintro e w5 ⟨m, rfl, hmi, hE5⟩
              have ln := hmi.len 3
              rw [show (((kindsOf (truthsL (sp.zip [(x.lo + (q : Int)), 0, 0, 0, 0]))).num : Nat) : Int) = numK sp 0 (x.lo + (q : Int)) from rfl] at ln
              have BX5 := Lib.hid ((BX.out.alloc _).ext hE5)
              have EX5 := Lib.hid ((EX2.out.trans (Ext.al _ _)).trans hE5)
              clear hmi hE5
              go_wp2
              go_roundg (N - (q + 1))
              case measure => omega
              case rel => exact ⟨q + 1, by omega, by omega, by simp; omega, by rw [HWS.out], BX5.out, EX5.out⟩
            · go_wp2_with fail
              refine (HMA.out _ 0 (x.lo + (q : Int)) 0 0 0 (HS.out.ext (((Ext.al _ _).trans EX2.out).trans (Ext.al _ _)))).mono ?_
              rintro e w5 ⟨m, rfl, hmi, hE5⟩
              have ln := hmi.len 3
              rw [show (((kindsOf (truthsL (sp.zip [0, (x.lo + (q : Int)), 0, 0, 0]))).num : Nat) : Int) = numK sp 1 (x.lo + (q : Int)) from rfl] at ln
              have BX5 := Lib.hid ((BX.out.alloc _).ext hE5)
              have EX5 := Lib.hid ((EX2.out.trans (Ext.al _ _)).trans hE5)
              clear hmi hE5
              go_wp2
              go_roundg (N - (q + 1))
              case measure => omega
              case rel => exact ⟨q + 1, by omega, by omega, by simp; omega, by rw [HWS.out], BX5.out, EX5.out⟩
            · go_wp2_with fail
              refine (HMA.out _ 0 0 (x.lo + (q : Int)) 0 0 (HS.out.ext (((Ext.al _ _).trans EX2.out).trans (Ext.al _ _)))).mono ?_
              rintro e w5 ⟨m, rfl, hmi, hE5⟩
              have ln := hmi.len 3
              rw [show (((kindsOf (truthsL (sp.zip [0, 0, (x.lo + (q : Int)), 0, 0]))).num : Nat) : Int) = numK sp 2 (x.lo + (q : Int)) from rfl] at ln
              have BX5 := Lib.hid ((BX.out.alloc _).ext hE5)
              have EX5 := Lib.hid ((EX2.out.trans (Ext.al _ _)).trans hE5)
              clear hmi hE5
              go_wp2
              go_roundg (N - (q + 1))
              case measure => omega
              case rel => exact ⟨q + 1, by omega, by omega, by simp; omega, by rw [HWS.out], BX5.out, EX5.out⟩
            · go_wp2_with fail
              refine (HMA.out _ 0 0 0 (x.lo + (q : Int)) 0 (HS.out.ext (((Ext.al _ _).trans EX2.out).trans (Ext.al _ _)))).mono ?_
              rintro e w5 ⟨m, rfl, hmi, hE5⟩
              have ln := hmi.len 3
              rw [show (((kindsOf (truthsL (sp.zip [0, 0, 0, (x.lo + (q : Int)), 0]))).num : Nat) : Int) = numK sp 3 (x.lo + (q : Int)) from rfl] at ln
              have BX5 := Lib.hid ((BX.out.alloc _).ext hE5)
              have EX5 := Lib.hid ((EX2.out.trans (Ext.al _ _)).trans hE5)
              clear hmi hE5
              go_wp2
              go_roundg (N - (q + 1))
              case measure => omega
              case rel => exact ⟨q + 1, by omega, by omega, by simp; omega, by rw [HWS.out], BX5.out, EX5.out⟩
            · go_wp2_with fail
              refine (HMA.out _ 0 0 0 0 (x.lo + (q : Int)) (HS.out.ext (((Ext.al _ _).trans EX2.out).trans (Ext.al _ _)))).mono ?_
              rintro e w5 ⟨m, rfl, hmi, hE5⟩
              have ln := hmi.len 3
              rw [show (((kindsOf (truthsL (sp.zip [0, 0, 0, 0, (x.lo + (q : Int))]))).num : Nat) : Int) = numK sp 4 (x.lo + (q : Int)) from rfl] at ln
              have BX5 := Lib.hid ((BX.out.alloc _).ext hE5)
              have EX5 := Lib.hid ((EX2.out.trans (Ext.al _ _)).trans hE5)
              clear hmi hE5
              go_wp2
              go_roundg (N - (q + 1))
              case measure => omega
              case rel => exact ⟨q + 1, by omega, by omega, by simp; omega, by rw [HWS.out], BX5.out, EX5.out⟩
          · have HQN := Lib.hid (show q = N by omega)
            have hgt : x.hi < x.lo + (q : Int) := by omega
            have HLQ := Lib.hid (show layN (numK sp) sp j = wst (numK sp j) x.lo q by rw [HLN.out, HQN.out])
            have HWB := Lib.hid (wst_bd (numK_bd sp j) x.lo q)
            have HAS := Lib.hid (show askTo (numK sp) sp 5 (j + 1) = if layN (numK sp) sp j < (askTo (numK sp) sp 5 j).2 then ((j : Int), layN (numK sp) sp j) else askTo (numK sp) sp 5 j from rfl)
            rw [HA.out, HLQ.out] at HAS
            dsimp only at HAS
            generalize wst (numK sp j) x.lo q = wv at *
            by_cases hlt : wv < few
            · rw [if_pos hlt] at HAS
              go_wp2
              go_roundg (sp.length - (j + 1))
              case measure => omega
              case rel => exact ⟨j + 1, (j : Int), wv, by omega, by omega, by simp, rfl, rfl, HAS.out, EX2.out⟩
            · rw [if_neg hlt] at HAS
              go_wp2
              go_roundg (sp.length - (j + 1))
              case measure => omega
              case rel => exact ⟨j + 1, at', few, by omega, by omega, by simp, rfl, rfl, HAS.out, EX2.out⟩
      · have HJ := Lib.hid (show askB b = (at', few) by rw [HK.out, ← HA.out, show j = sp.length by omega])
        go_wp2
        refine bodyPost_ret (v := .tuple #[.int .i64 at', .int .i64 few, .int .i64 0]) (by simp [results, Tryd.results34, go_sem]) rfl ?_
        exact ⟨by rw [HJ.out, HZ.out], HEW.out.trans ((Ext.al _ _).trans EX.out)⟩
  · have HK := Lib.hid (show askB b = (0, 0) by unfold askB; rw [if_neg hz9])
    obtain rfl := hpz hz9
    generalize hE9 : askE b true 0 = E at hz9
    have HE9 := Lib.hid hE9; clear hE9 hpv hpz
    have HE1 := Lib.hid (HEW.out.alloc (.cells #[.int .i64 0, .int .i64 0, .int .i64 0, .int .i64 0, .slice none 0 0, .slice none 0 0, .slice none 0 0, .slice none 0 0] 82))
    go_wp2
    refine bodyPost_ret (v := .tuple #[.int .i64 0, .int .i64 0, .int .i64 E]) (by simp [results, Tryd.results34, go_sem]) rfl ?_
    exact ⟨by rw [HK.out, HE9.out], HE1.out⟩
end Go.Proofs.YtcoiahjehlplfaaDoor
/- The reference's pinned and Ask. -/
namespace Go.Proofs.YtcoiahjehlplfaaDoor
open Go.RowKit Go.Shelf Go.Lib
set_option maxRecDepth 100000
set_option linter.unusedSimpArgs false

theorem cell_set2 {W : World} {g p q : Nat} {u0 v : Value} (h0 : W.cell? ⟨g, p, none⟩ = some u0) : (W.setCell ⟨g, p, none⟩ v).cell? ⟨g, q, none⟩ = if p = q then some v else W.cell? ⟨g, q, none⟩ := by
  by_cases hpq : p = q
  · subst hpq; rw [if_pos rfl]; exact World.cell?_setCell_same (h := h0) ..
  · rw [if_neg hpq]; exact World.cell?_setCell_other (h := by intro e; injection e with _ e _; exact hpq e) ..
theorem Sl.put2 {W : World} {g o n c i : Nat} {l : List Span} {x : Span} (h : SlS W (.slice (some ⟨g, o, none⟩) n c) l) (hi : i < n) :
    SlS ((W.setCell ⟨g, o + i * 2, none⟩ (.int .i64 x.lo)).setCell ⟨g, o + i * 2 + 1, none⟩ (.int .i64 x.hi)) (.slice (some ⟨g, o, none⟩) n c) (l.set i x) := by
  obtain ⟨b, off, y, e1, hy, hb, hyc⟩ := h.at_ hi
  injection e1 with e1
  injection e1 with e1 e2
  subst e1 e2
  obtain ⟨c0, c1⟩ := SlS.cells hyc (Ext.refl _)
  obtain ⟨a', c', hv, hl, hc, hcell⟩ := h
  injection hv with e1 e2 e3
  subst e1 e2 e3
  refine ⟨_, _, by rw [List.length_set], by rw [List.length_set]; exact hl, hc, fun h0 => ?_⟩
  rw [List.length_set] at h0
  obtain ⟨b', off', hA, hb', hcell⟩ := hcell h0
  injection hA with hA
  injection hA with e1 e2
  subst e1 e2
  refine ⟨_, _, rfl, by simpa [World.setCell] using hb', fun k z hk j u hu => ?_⟩
  have c1' : (W.setCell ⟨g, o + i * 2, none⟩ (.int .i64 x.lo)).cell? ⟨g, o + i * 2 + 1, none⟩ = some (.int .i64 y.hi) := by rw [cell_set2 c0, if_neg (by omega)]; exact c1
  rw [cell_set2 c1', cell_set2 c0]
  have hj : j = 0 ∧ u = .int .i64 z.lo ∨ j = 1 ∧ u = .int .i64 z.hi := by
    match j, hu with
    | 0, hu => left; simp at hu; exact ⟨rfl, hu.symm⟩
    | 1, hu => right; simp at hu; exact ⟨rfl, hu.symm⟩
  rw [List.getElem?_set] at hk
  by_cases hik : i = k
  · subst hik
    simp only [if_true] at hk
    rw [if_pos (by omega)] at hk
    injection hk with hk
    subst hk
    rcases hj with ⟨rfl, rfl⟩ | ⟨rfl, rfl⟩
    · rw [if_neg (by omega), if_pos (by omega)]
    · rw [if_pos (by omega)]
  · rw [if_neg hik] at hk
    have := hcell k z hk j u hu
    rcases hj with ⟨rfl, rfl⟩ | ⟨rfl, rfl⟩
    · rw [if_neg (by omega), if_neg (by omega)]; exact this
    · rw [if_neg (by omega), if_neg (by omega)]; exact this

theorem own_succ2 {W : World} {base : Nat} {e : TypeId} {size : Nat} {v : Value} {k : Nat} {xs : List Value} (h : W.ownsRow base e size v (k + 1) xs) : ∃ g cap, v = .slice (some ⟨g, 0, none⟩) (k + 1) cap ∧ base ≤ g ∧ ∃ row, W.heap[g]? = some (.cells row e (0, 0)) := by
  rcases h.2 with ⟨_, h0⟩ | ⟨g, cap, row, rfl, hg, hh, _⟩
  · omega
  · exact ⟨g, cap, rfl, hg, row, hh⟩

theorem wpList_copyS {ops : Array Oper} {rest : List Oper} {o : Oper} {a : Act} {Q : Exit → Act → World → Prop} {W : World} (hgd : o.guard = none) (s x : Operand)
    (ho : o.op = .call { callee := .builtin .append, args := #[s, x], argTypes := #[80, 80] }) {base g : Nat} (hs : a.eval s = .slice (some ⟨g, 0, none⟩) 0 0) {v : Value} (hx : a.eval x = v)
    (hB : Blk W g 23 #[]) (hg : base ≤ g) (hW : base ≤ W.heap.size) {l : List Span} (hl : SlS W v l) (hlen : l.length ≤ 1000)
    (h : ∀ v' W', Own encS 23 2 W' base v' l → Ext W W' → wpList Tryd.prog ops Q rest (a.put o.dst v') W') : wpList Tryd.prog ops Q (o :: rest) a W := by
  obtain ⟨v', W', hr, h1, h2⟩ := run_copy (t := 80) (ty := o.type) (enc := encS) (sz := 2) Tryd.underlying80 info23x rfl (by decide) (by decide) (fun _ => rfl) hB hg hW hl hlen
  refine wpList_plain hgd fun K hK => ?_
  unfold Oper.wp execOp
  simp only [ho, resolve, invoke, builtin, Sem.run_bind, Sem.run_pure, Result.andThen_ok, List.map_toArray, List.map_cons, List.map_nil, hs, hx, hr]
  exact hK _ _ (h v' W' h1 h2)

set_option maxHeartbeats 1000000 in
theorem pinned_any {sp : List Span} (i : Nat) (n : Int) (sv : Value) (w : World) (hi : i < sp.length) (h5 : sp.length ≤ 1000) (hs : SlS w sv sp) :
    Calls Tryd.prog 78 #[sv, .int .i64 (i : Int), .int .i64 n] w fun e w' => ∃ b' o' c', e = .returned (.slice (some ⟨b', o', none⟩) sp.length c') ∧ SlS w' (.slice (some ⟨b', o', none⟩) sp.length c') (sp.set i ⟨n, n⟩) ∧ Ext w w' := by
  have HS := Lib.hid hs; clear hs
  have H5 := Lib.hid h5
  have hiz : (i : Int) < (sp.length : Int) := by omega
  have hi0 : (0 : Int) ≤ (i : Int) := by omega
  go_enter Tryd.func78, Tryd.ntmps78
  go_wp2_with (at_builtin; refine wpList_copyS rfl (.tmp 8) (.tmp 9) rfl (base := w.heap.size) (g := w.heap.size) rfl rfl (Blk.new _ _ _) (Nat.le_refl _) (by simp) (HS.out.ext (Ext.al _ _)) H5.out ?_)
  intro v1 w1 hown hext
  have HE := Lib.hid (show Ext w w1 from (Ext.al _ _).trans hext)
  have hsl : SlS w1 v1 sp := Own.sl (enc := encS) (fun _ => rfl) hown
  obtain ⟨m, hm⟩ : ∃ m, sp.length = m + 1 := ⟨sp.length - 1, by omega⟩
  unfold Own at hown
  rw [hm] at hown
  obtain ⟨g, cap, rfl, hg, row, hrow⟩ := own_succ2 hown
  rw [← hm] at hsl ⊢
  obtain ⟨bb, off, y, e1, hy, hb, hyc⟩ := hsl.at_ (show i < sp.length from hi)
  injection e1 with e1
  injection e1 with e1 e2
  subst e1 e2
  obtain ⟨c0, c1⟩ := SlS.cells hyc (Ext.refl _)
  have HSL := Lib.hid hsl
  simp only [Nat.zero_add] at c0 c1
  have f0 : ∀ j, w1.frozen? ⟨g, j, none⟩ = false := fun j => by simp [World.frozen?, hrow]
  have HGE := Lib.hid hg
  clear hown hext hsl hm hyc hy hg h5 hrow
  go_wp2
  go_ret
  exact ⟨g, 0, cap, rfl, by have := HSL.out.put2 (x := ⟨n, n⟩) hi; simpa using this, (HE.out.setCell HGE.out _).setCell HGE.out _⟩

def numR (sp : List Span) (j : Nat) (n : Int) : Int := ((rk S4.none (exts [] (zOf (sp.set j ⟨n, n⟩)))).num : Nat)
def raskB (b : Bale) : Int × Int := if askE b true 0 = 0 then askTo (numR (spans b)) (spans b) 9 (spans b).length else (0, 0)
theorem numR_bd (sp : List Span) (j : Nat) (n : Int) : 0 ≤ numR sp j n ∧ numR sp j n ≤ 4 := by
  unfold numR; have := S4.num_le (rk S4.none (exts [] (zOf (sp.set j ⟨n, n⟩)))); omega

set_option maxHeartbeats 4000000 in
theorem refAsk_any (b : Bale) (dv wv : Value) (w : World) (hd : SlD w dv b.draws) (hw : SlW w wv b.weighs) :
    Calls Tryd.prog 35 #[valB b dv wv] w fun e w' => e = .returned (.tuple #[.int .i64 (raskB b).1, .int .i64 (raskB b).2, .int .i64 (askE b true 0)]) ∧ Ext w w' := by
  have HD := Lib.hid hd
  have HW := Lib.hid hw
  obtain ⟨A, n, cp, rfl, hn, hlc, hcm⟩ := hd.form
  obtain ⟨A2, n2, cp2, rfl, hn2, hlc2, hcm2⟩ := hw.form
  clear hd hw
  go_enter Tryd.func35, Tryd.ntmps35
  go_wp2_with fail
  refine (refAsked_any b _ _ _ (HD.out.ext (Ext.al _ _)) (HW.out.ext (Ext.al _ _))).mono ?_
  rintro e w2 ⟨sv, lv, rfl, hsl, hE2⟩
  have HE2 := Lib.hid ((Ext.al w _).trans hE2)
  clear hE2
  by_cases hz9 : askE b true 0 = 0
  · obtain ⟨hs, hl⟩ := hsl hz9
    obtain ⟨h1, h3⟩ : valid b = true ∧ okB b = true := by
      unfold askE at hz9
      split at hz9
      · simp at hz9; exact ⟨by assumption, hz9⟩
      · cases hz9
    have hb5 := valid_bds h1
    obtain ⟨Al, nl, cl, rfl, hnl, hlc', hlm⟩ := hl.form
    have hln := spans_len b
    have hl0 : 0 < (spans b).length := by have := hb5.l1; omega
    have hl5 : (spans b).length ≤ 5 := by have := hb5.l5; omega
    obtain ⟨As, cs, rfl, hsc, hsm, hcx⟩ := id hs
    obtain ⟨bs, os, rfl, hbs, -⟩ := hcx hl0
    have HBD := Lib.hid (show ∀ x ∈ spans b, 1 ≤ x.lo ∧ x.lo ≤ 9 ∧ x.hi ≤ 9 ∧ 1 ≤ x.hi from fun x hx => spans_bd h1 x hx)
    have HK := Lib.hid (show raskB b = askTo (numR (spans b)) (spans b) 9 (spans b).length by unfold raskB; rw [if_pos hz9])
    have HZ := Lib.hid hz9
    have HS := Lib.hid hs
    have HL5 := Lib.hid hl5; have HL0 := Lib.hid hl0
    generalize hsp : spans b = sp at *
    rw [hz9]
    clear hz9 hs hl hsl hsc hsm hcx hb5 h1 h3 hsp hln hl0 hl5 hbs
    go_wp2
    go_loopg [8, 9, 10, 11, 12, 13, 14] sp.length (fun gg s8 s9 s10 _ _ _ _ wr => ∃ (j : Nat) (at' few : Int), j ≤ sp.length ∧ sp.length - j ≤ gg ∧ s10 = .int .i64 j ∧ s8 = .int .i64 at' ∧ s9 = .int .i64 few ∧ Aside (askTo (numR sp) sp 9 j = (at', few)) ∧ Aside (Ext w2 wr))
    case atStart => exact ⟨0, 0, 9, by omega, by omega, rfl, rfl, rfl, rfl, Ext.refl _⟩
    case round =>
      obtain ⟨j, at', few, hj, hgg, rfl, rfl, rfl, HA, EX⟩ := hrel
      by_cases hjn : j < sp.length
      · have hjz : (j : Int) < (sp.length : Int) := by omega
        have hj0 : (0 : Int) ≤ (j : Int) := by omega
        obtain ⟨bb, off, x, e1, hx, hbb, hxc⟩ := HS.out.at_ hjn
        injection e1 with e1
        injection e1 with e1 e2
        subst e1 e2
        obtain ⟨c0, c1⟩ := SlS.cells hxc EX.out
        have HXC := Lib.hid hxc
        have hxb := HBD.out x (List.mem_of_getElem? hx)
        have HLN := Lib.hid (show layN (numR sp) sp j = wst (numR sp j) x.lo (x.hi - x.lo + 1).toNat by unfold layN; rw [hx])
        have hj5 : j < 5 := by have := HL5.out; omega
        generalize hN : (x.hi - x.lo + 1).toNat = N at *
        clear hx hxc
        go_wp2
        clear c0 c1
        go_loopg [11, 12, 13, 14] N (fun gg s11 s12 _ _ wr => ∃ q : Nat, q ≤ N ∧ N - q ≤ gg ∧ s12 = .int .i64 (x.lo + (q : Int)) ∧ s11 = .int .i64 (wst (numR sp j) x.lo q) ∧ Aside (Ext w2 wr))
        case atStart => exact ⟨0, by omega, by omega, by simp, rfl, EX.out⟩
        case round =>
          obtain ⟨q, hq, hgq, rfl, rfl, EX2⟩ := hrel
          obtain ⟨c0, c1⟩ := SlS.cells HXC.out EX2.out
          by_cases hqN : q < N
          · have hle : x.lo + (q : Int) ≤ x.hi := by omega
            have HWS := Lib.hid (show wst (numR sp j) x.lo (q + 1) = max (wst (numR sp j) x.lo q) (numR sp j (x.lo + (q : Int))) from rfl)
            go_wp2_with fail
            refine (pinned_any j (x.lo + (q : Int)) _ _ hjn (by have := HL5.out; omega) (HS.out.ext EX2.out)).mono ?_
            rintro e w5 ⟨b', o', c', rfl, hsl5, hE5⟩
            have HS5 := Lib.hid hsl5
            have EX5 := Lib.hid (EX2.out.trans hE5)
            clear hsl5 hE5 c0 c1
            have H := many_any (sp := sp.set j ⟨x.lo + (q : Int), x.lo + (q : Int)⟩) (bb := b') (off := o') (cs := c') w5 (by rw [List.length_set]; have := HL5.out; omega) (by rw [List.length_set]; exact HL0.out) (fun y hy => by
              rcases List.mem_or_eq_of_mem_set hy with hy | rfl
              · have := HBD.out y hy; omega
              · dsimp only; omega) (by rw [List.length_set]; exact HS5.out)
            rw [List.length_set] at H
            have HH := Lib.hid H; clear H
            go_wp2_with fail
            refine HH.out.mono ?_
            rintro e w6 ⟨rfl, hE6⟩
            have EX6 := Lib.hid (EX5.out.trans hE6)
            rw [show (((rk S4.none (exts [] (zOf (sp.set j ⟨x.lo + (q : Int), x.lo + (q : Int)⟩)))).num : Nat) : Int) = numR sp j (x.lo + (q : Int)) from rfl]
            generalize rk S4.none (exts [] (zOf (sp.set j ⟨x.lo + (q : Int), x.lo + (q : Int)⟩))) = s
            clear hE6
            show _
            dsimp only [flagsV]
            go_wp2
            go_roundg (N - (q + 1))
            case measure => omega
            case rel => exact ⟨q + 1, by omega, by omega, by simp; omega, by rw [HWS.out], EX6.out.alloc _⟩
          · have HQN := Lib.hid (show q = N by omega)
            have hgt : x.hi < x.lo + (q : Int) := by omega
            have HLQ := Lib.hid (show layN (numR sp) sp j = wst (numR sp j) x.lo q by rw [HLN.out, HQN.out])
            have HAS := Lib.hid (show askTo (numR sp) sp 9 (j + 1) = if layN (numR sp) sp j < (askTo (numR sp) sp 9 j).2 then ((j : Int), layN (numR sp) sp j) else askTo (numR sp) sp 9 j from rfl)
            rw [HA.out, HLQ.out] at HAS
            dsimp only at HAS
            generalize wst (numR sp j) x.lo q = wv at *
            by_cases hlt : wv < few
            · rw [if_pos hlt] at HAS
              go_wp2
              go_roundg (sp.length - (j + 1))
              case measure => omega
              case rel => exact ⟨j + 1, (j : Int), wv, by omega, by omega, by simp, rfl, rfl, HAS.out, EX2.out⟩
            · rw [if_neg hlt] at HAS
              go_wp2
              go_roundg (sp.length - (j + 1))
              case measure => omega
              case rel => exact ⟨j + 1, at', few, by omega, by omega, by simp, rfl, rfl, HAS.out, EX2.out⟩
      · have HJ := Lib.hid (show raskB b = (at', few) by rw [HK.out, ← HA.out, show j = sp.length by omega])
        go_wp2
        refine bodyPost_ret (v := .tuple #[.int .i64 at', .int .i64 few, .int .i64 0]) (by simp [results, Tryd.results35, go_sem]) rfl ?_
        exact ⟨by rw [HJ.out, HZ.out], HE2.out.trans EX.out⟩
  · have HK := Lib.hid (show raskB b = (0, 0) by unfold raskB; rw [if_neg hz9])
    generalize hE9 : askE b true 0 = E at hz9
    have HE9 := Lib.hid hE9; clear hE9 hsl
    go_wp2
    refine bodyPost_ret (v := .tuple #[.int .i64 0, .int .i64 0, .int .i64 E]) (by simp [results, Tryd.results35, go_sem]) rfl ?_
    exact ⟨by rw [HK.out, HE9.out], HE2.out⟩
end Go.Proofs.YtcoiahjehlplfaaDoor
/- The plain law: Ask. -/
namespace Go.Proofs.YtcoiahjehlplfaaDoor
open Go.RowKit Go.Shelf
set_option linter.unusedSimpArgs false

def truthsG : List (List Int) → List (List Int)
  | [] => [[]]
  | g :: r => g.flatMap fun n => (truthsG r).map (n :: ·)
theorem truthsL_G (z : List (Span × Int)) : truthsL z = truthsG (z.map fun y => gradesOf y.1 y.2) := by
  induction z with
  | nil => rfl
  | cons y z ih => rw [List.map_cons]; unfold truthsL truthsG; rw [ih]
theorem gTo_one {s : Span} {n : Int} (h1 : s.lo ≤ n) (hn : n ≠ 0) : ∀ k : Nat, gTo s n k = if n < s.lo + (k : Int) then [n] else []
  | 0 => by unfold gTo; simp; omega
  | k + 1 => by
    rw [gTo_succ, gTo_one h1 hn k]
    have h0 : (n == 0) = false := by simpa using hn
    rw [h0, Bool.false_or]
    by_cases he : n = s.lo + (k : Int)
    · rw [if_neg (by omega), if_pos (by simpa using he), if_pos (by omega), List.nil_append, ← he]
    · rw [if_neg (show ¬ ((n == s.lo + (k : Int)) = true) by simpa using he)]
      by_cases hl : n < s.lo + (k : Int)
      · rw [if_pos hl, if_pos (by omega)]; simp
      · rw [if_neg hl, if_neg (by omega)]; simp
theorem grades_pick {s : Span} {n : Int} (h1 : s.lo ≤ n) (h2 : n ≤ s.hi) (hn : n ≠ 0) : gradesOf s n = [n] := by
  unfold gradesOf; rw [gTo_one h1 hn, if_pos (by omega)]
theorem grades_pin (n : Int) : gradesOf ⟨n, n⟩ 0 = [n] := by
  unfold gradesOf gTo
  simp
theorem zeros_at (k : Nat) (h : k < 5) : ([0, 0, 0, 0, 0] : List Int)[k]? = some 0 := by
  obtain rfl | rfl | rfl | rfl | rfl : k = 0 ∨ k = 1 ∨ k = 2 ∨ k = 3 ∨ k = 4 := by omega
  all_goals rfl
theorem shown_at (j k : Nat) (n : Int) (h : k < 5) : (shown j n)[k]? = some (if j = k then n else 0) := by
  unfold shown
  rw [List.getElem?_set]
  by_cases hjk : j = k
  · subst hjk; simp [h]
  · rw [if_neg hjk, if_neg hjk, zeros_at k h]
theorem pin_eq {sp : List Span} (h5 : sp.length ≤ 5) {j : Nat} {x : Span} (hx : sp[j]? = some x) {n : Int} (h1 : x.lo ≤ n) (h2 : n ≤ x.hi) (hn : n ≠ 0) :
    truthsL ((sp.set j ⟨n, n⟩).zip [0, 0, 0, 0, 0]) = truthsL (sp.zip (shown j n)) := by
  rw [truthsL_G, truthsL_G]
  congr 1
  apply List.ext_getElem?
  intro k
  rw [List.getElem?_map, List.getElem?_map]
  by_cases hk : k < sp.length
  · obtain ⟨y, hy⟩ : ∃ y, sp[k]? = some y := ⟨_, List.getElem?_eq_getElem hk⟩
    have hz := zeros_at k (by omega)
    have hs := shown_at j k n (by omega)
    have e2 : (sp.zip (shown j n))[k]? = some (y, if j = k then n else 0) := by rw [List.getElem?_zip_eq_some]; exact ⟨hy, hs⟩
    rw [e2]
    by_cases hjk : j = k
    · subst hjk
      obtain rfl : y = x := by rw [hx] at hy; injection hy with h; exact h.symm
      have e1 : ((sp.set j ⟨n, n⟩).zip ([0, 0, 0, 0, 0] : List Int))[j]? = some (⟨n, n⟩, 0) := by
        rw [List.getElem?_zip_eq_some]
        refine ⟨?_, hz⟩
        rw [List.getElem?_set, if_pos rfl, if_pos hk]
      rw [e1]
      simp only [Option.map_some, if_true]
      rw [grades_pin, grades_pick h1 h2 hn]
    · have e1 : ((sp.set j ⟨n, n⟩).zip ([0, 0, 0, 0, 0] : List Int))[k]? = some (y, 0) := by
        rw [List.getElem?_zip_eq_some]
        refine ⟨?_, hz⟩
        rw [List.getElem?_set, if_neg hjk]; exact hy
      rw [e1, if_neg hjk]
  · have e1 : ((sp.set j ⟨n, n⟩).zip ([0, 0, 0, 0, 0] : List Int))[k]? = none := List.getElem?_eq_none (by rw [List.length_zip, List.length_set]; omega)
    have e2 : (sp.zip (shown j n))[k]? = none := List.getElem?_eq_none (by rw [List.length_zip]; omega)
    rw [e1, e2]
theorem num_eq {sp : List Span} (h5 : sp.length ≤ 5) (h0 : 0 < sp.length) (hb : ∀ x ∈ sp, 1 ≤ x.lo ∧ x.hi ≤ 9) {j : Nat} {x : Span} (hx : sp[j]? = some x) {n : Int} (h1 : x.lo ≤ n) (h2 : n ≤ x.hi) : numR sp j n = numK sp j n := by
  have hxb := hb x (List.mem_of_getElem? hx)
  unfold numR numK
  rw [rk_eq (by rw [List.length_set]; exact h5) (by rw [List.length_set]; exact h0) (fun y hy => by
    rcases List.mem_or_eq_of_mem_set hy with hy | rfl
    · exact hb y hy
    · dsimp only; omega), pin_eq h5 hx h1 h2 (by omega)]
theorem wst_eq {f g : Int → Int} {lo : Int} : ∀ k : Nat, (∀ i : Nat, i < k → f (lo + (i : Int)) = g (lo + (i : Int))) → wst f lo k = wst g lo k
  | 0, _ => rfl
  | k + 1, h => by unfold wst; rw [wst_eq k (fun i hi => h i (by omega)), h k (by omega)]
theorem layN_eq {sp : List Span} (h5 : sp.length ≤ 5) (h0 : 0 < sp.length) (hb : ∀ x ∈ sp, 1 ≤ x.lo ∧ x.hi ≤ 9) (j : Nat) : layN (numR sp) sp j = layN (numK sp) sp j := by
  unfold layN
  cases hx : sp[j]? with
  | none => rfl
  | some x => exact wst_eq _ fun i hi => num_eq h5 h0 hb hx (by omega) (by omega)
theorem layN_bd (sp : List Span) (j : Nat) : layN (numK sp) sp j ≤ 4 := by
  unfold layN
  split
  · exact (wst_bd (numK_bd sp j) _ _).2
  · omega
theorem ask_eq (b : Bale) : raskB b = askB b := by
  unfold raskB askB
  split
  · rename_i hz
    obtain ⟨h1, h3⟩ : valid b = true ∧ okB b = true := by
      unfold askE at hz
      split at hz
      · simp at hz; exact ⟨by assumption, hz⟩
      · cases hz
    have hB := valid_bds h1
    have hl := spans_len b
    have h5 : (spans b).length ≤ 5 := by have := hB.l5; omega
    have h0 : 0 < (spans b).length := by have := hB.l1; omega
    have hb : ∀ x ∈ spans b, 1 ≤ x.lo ∧ x.hi ≤ 9 := fun x hx => by have := spans_bd h1 x hx; omega
    unfold askS
    generalize spans b = sp at *
    have key : ∀ j, askTo (numR sp) sp 9 (j + 1) = askTo (numK sp) sp 5 (j + 1) := by
      intro j
      induction j with
      | zero =>
        unfold askTo
        rw [layN_eq h5 h0 hb]
        have := layN_bd sp 0
        rw [if_pos (by unfold askTo; dsimp only; omega), if_pos (by unfold askTo; dsimp only; omega)]
      | succ j ih =>
        rw [askTo, askTo.eq_2 (numK sp), ih, layN_eq h5 h0 hb]
    obtain ⟨m, hm⟩ : ∃ m, sp.length = m + 1 := ⟨sp.length - 1, by omega⟩
    rw [hm]; exact key m
  · rfl
end Go.Proofs.YtcoiahjehlplfaaDoor
