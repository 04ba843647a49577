/- core.Ask. -/
import Derived.Test.YtdlipbobfgdleaaDoorPkTruthCardO
import Derived.Test.YtdlipbobfgdleaaDoorPkTruthCardN
namespace Go.Proofs.YtdlipbobfgdleaaDoor
open Go.RowKit Go.Shelf Go.Lib
set_option maxRecDepth 100000
set_option linter.unusedSimpArgs false

abbrev shown (j : Nat) (n : Int) : List Int := [0, 0, 0, 0, 0].set j n
/-- How many kinds are left when a layer shows a grade. -/
def numK (sp : List Span) (j : Nat) (n : Int) : Int := ((kindsOf (truthsL (sp.zip (shown j n)))).num : Nat)
def wst (f : Int → Int) (lo : Int) : Nat → Int
  | 0 => 0
  | k + 1 => max (wst f lo k) (f (lo + (k : Int)))
def layN (f : Nat → Int → Int) (sp : List Span) (j : Nat) : Int := match sp[j]? with | some x => wst (f j) x.lo (x.hi - x.lo + 1).toNat | none => 0
def askTo (f : Nat → Int → Int) (sp : List Span) (most : Int) : Nat → Int × Int
  | 0 => (0, most)
  | j + 1 => if layN f sp j < (askTo f sp most j).2 then ((j : Int), layN f sp j) else askTo f sp most j
def askS (b : Bale) : Int × Int := askTo (numK (spans b)) (spans b) 5 (spans b).length
def askB (b : Bale) : Int × Int := if askE b true 0 = 0 then askS b else (0, 0)
theorem numK_bd (sp : List Span) (j : Nat) (n : Int) : 0 ≤ numK sp j n ∧ numK sp j n ≤ 4 := by
  unfold numK; have := S4.num_le (kindsOf (truthsL (sp.zip (shown j n)))); omega
theorem wst_bd {f : Int → Int} (h : ∀ n, 0 ≤ f n ∧ f n ≤ 4) (lo : Int) : ∀ k, 0 ≤ wst f lo k ∧ wst f lo k ≤ 4
  | 0 => by simp [wst]
  | k + 1 => by have := wst_bd h lo k; have := h (lo + k); unfold wst; omega

set_option maxHeartbeats 4000000 in
theorem ask_any (b : Bale) (dv wv : Value) (w : World) (hT : Tab w) (hd : SlD w dv b.draws) (hw : SlW w wv b.weighs) :
    Calls Tryd.prog 41 #[valB b dv wv] w fun e w' => e = .returned (.tuple #[.int .i64 (askB b).1, .int .i64 (askB b).2, .int .i64 (askE b true 0)]) ∧ Ext w w' := by
  have HT := Lib.hid hT
  have HD := Lib.hid hd
  have HW := Lib.hid hw
  obtain ⟨A, n, cp, rfl, hn, hlc, hcm⟩ := hd.form
  obtain ⟨A2, n2, cp2, rfl, hn2, hlc2, hcm2⟩ := hw.form
  clear hd hw hT
  go_enter Tryd.func41, Tryd.ntmps41
  go_wp2_with fail
  refine (asked_nil b _ _ _ (HT.out.ext (Ext.al _ _)) (HD.out.ext (Ext.al _ _)) (HW.out.ext (Ext.al _ _))).mono ?_
  rintro e w1 ⟨pv, rfl, hpv, hpz, hE⟩
  have HEW := Lib.hid ((Ext.al w _).trans hE)
  clear hE
  by_cases hz9 : askE b true 0 = 0
  · obtain ⟨sv, lv, rfl, hs, hl⟩ := hpv hz9
    obtain ⟨h1, h3⟩ : valid b = true ∧ okB b = true := by
      unfold askE at hz9
      split at hz9
      · simp at hz9; exact ⟨by assumption, hz9⟩
      · cases hz9
    have hb5 := valid_bds h1
    obtain ⟨Al, nl, cl, rfl, hnl, hlc', hlm⟩ := hl.form
    have hln := spans_len b
    have hl0 : 0 < (spans b).length := by have := hb5.l1; omega
    have hl5 : (spans b).length ≤ 5 := by have := hb5.l5; omega
    obtain ⟨As, cs, rfl, hsc, hsm, hcx⟩ := id hs
    obtain ⟨bs, os, rfl, hbs, -⟩ := hcx hl0
    have HBD := Lib.hid (show ∀ x ∈ spans b, 1 ≤ x.lo ∧ x.lo ≤ 9 ∧ x.hi ≤ 9 ∧ 1 ≤ x.hi from fun x hx => spans_bd h1 x hx)
    have HK := Lib.hid (show askB b = askTo (numK (spans b)) (spans b) 5 (spans b).length by unfold askB; rw [if_pos hz9]; rfl)
    have HZ := Lib.hid hz9
    have HS := Lib.hid hs
    have HMA := Lib.hid (fun W s0 s1 s2 s3 s4 hS => kinds_any b (.slice A n cp) (.slice A2 n2 cp2) (.slice Al nl cl) bs os cs (spans b) s0 s1 s2 s3 s4 W hl5 hl0 (fun x hx => by have := spans_bd h1 x hx; omega) hS)
    have HL5 := Lib.hid hl5
    generalize hsp : spans b = sp at *
    rw [hz9]
    dsimp only [valP]
    have HBP := Lib.hid (Blk.new w1 106 #[.int .i64 b.id, .int .i64 b.layers, .int .i64 b.dry.lo, .int .i64 b.dry.hi, .slice A n cp, .slice A2 n2 cp2, .slice (some ⟨bs, os, none⟩) sp.length cs, .slice Al nl cl])
    clear hz9 hs hl hsc hsm hcx hb5 h1 h3 hpv hpz hsp hln hl0 hl5 hbs
    go_wp2
    go_loopg [2, 3, 6, 7, 8, 9, 10, 22] sp.length (fun gg s2 s3 _ _ _ _ _ s22 wr => ∃ (j : Nat) (at' few : Int), j ≤ sp.length ∧ sp.length - j ≤ gg ∧ s22 = .int .i64 j ∧ s2 = .int .i64 at' ∧ s3 = .int .i64 few ∧ Aside (askTo (numK sp) sp 5 j = (at', few)) ∧ Aside (Ext (w1.alloc (.cells #[.int .i64 b.id, .int .i64 b.layers, .int .i64 b.dry.lo, .int .i64 b.dry.hi, .slice A n cp, .slice A2 n2 cp2, .slice (some ⟨bs, os, none⟩) sp.length cs, .slice Al nl cl] 106)) wr))
    case atStart => exact ⟨0, 0, 5, by omega, by omega, rfl, rfl, rfl, rfl, Ext.refl _⟩
    case round =>
      obtain ⟨j, at', few, hj, hgg, rfl, rfl, rfl, HA, EX⟩ := hrel
      by_cases hjn : j < sp.length
      · have hjz : (j : Int) < (sp.length : Int) := by omega
        obtain ⟨bb, off, x, e1, hx, hbb, hxc⟩ := HS.out.at_ hjn
        injection e1 with e1
        injection e1 with e1 e2
        subst e1 e2
        obtain ⟨c0, c1⟩ := SlS.cells hxc ((Ext.al _ _).trans EX.out)
        have hxb := HBD.out x (List.mem_of_getElem? hx)
        have HLN := Lib.hid (show layN (numK sp) sp j = wst (numK sp j) x.lo (x.hi - x.lo + 1).toNat by unfold layN; rw [hx])
        have hj5 : j < 5 := by have := HL5.out; omega
        generalize hN : (x.hi - x.lo + 1).toNat = N at *
        obtain ⟨wo, hwo⟩ : ∃ wo : World, wo = wr := ⟨_, rfl⟩
        subst hwo
        clear hx hxc
        go_wp2
        go_loopg [8, 9, 10] N (fun gg s8 s9 _ wr => ∃ q : Nat, q ≤ N ∧ N - q ≤ gg ∧ s9 = .int .i64 (x.lo + (q : Int)) ∧ s8 = .int .i64 (wst (numK sp j) x.lo q) ∧ Aside (Blk wr wo.heap.size 23 #[.int .i64 x.lo, .int .i64 x.hi]) ∧ Aside (Ext (w1.alloc (.cells #[.int .i64 b.id, .int .i64 b.layers, .int .i64 b.dry.lo, .int .i64 b.dry.hi, .slice A n cp, .slice A2 n2 cp2, .slice (some ⟨bs, os, none⟩) sp.length cs, .slice Al nl cl] 106)) wr))
        case atStart => exact ⟨0, by omega, by omega, by simp, rfl, Blk.new _ _ _, EX.out.alloc _⟩
        case round =>
          clear c0 c1
          obtain ⟨q, hq, hgq, rfl, rfl, BX, EX2⟩ := hrel
          have z1 := BX.out.cell 1
          have zl := BX.out.lt
          simp at z1
          have HBPW := Lib.hid (HBP.out.ext EX2.out)
          have y0 := HBPW.out.cell 0
          have y1 := HBPW.out.cell 1
          have y2 := HBPW.out.cell 2
          have y3 := HBPW.out.cell 3
          have y4 := HBPW.out.cell 4
          have y5 := HBPW.out.cell 5
          have y6 := HBPW.out.cell 6
          have y7 := HBPW.out.cell 7
          have yl := HBPW.out.lt
          simp at y0 y1 y2 y3 y4 y5 y6 y7
          by_cases hqN : q < N
          · have hle : x.lo + (q : Int) ≤ x.hi := by omega
            have HWS := Lib.hid (show wst (numK sp j) x.lo (q + 1) = max (wst (numK sp j) x.lo q) (numK sp j (x.lo + (q : Int))) from rfl)
            have hwb := wst_bd (numK_bd sp j) x.lo q
            have hnb := numK_bd sp j (x.lo + (q : Int))
            have hj' : j = 0 ∨ j = 1 ∨ j = 2 ∨ j = 3 ∨ j = 4 := by omega
            rcases hj' with rfl | rfl | rfl | rfl | rfl
            · go_wp2_with fail
              refine (HMA.out _ (x.lo + (q : Int)) 0 0 0 0 (HS.out.ext (((Ext.al _ _).trans EX2.out).trans (Ext.al _ _)))).mono ?_
              rintro e w5 ⟨m, rfl, hmi, hE5⟩
              have ln := hmi.len 3
              rw [show (((kindsOf (truthsL (sp.zip [(x.lo + (q : Int)), 0, 0, 0, 0]))).num : Nat) : Int) = numK sp 0 (x.lo + (q : Int)) from rfl] at ln
              have BX5 := Lib.hid ((BX.out.alloc _).ext hE5)
              have EX5 := Lib.hid ((EX2.out.trans (Ext.al _ _)).trans hE5)
              clear hmi hE5
              go_wp2
              go_roundg (N - (q + 1))
              case measure => omega
              case rel => exact ⟨q + 1, by omega, by omega, by simp; omega, by rw [HWS.out], BX5.out, EX5.out⟩
            · go_wp2_with fail
              refine (HMA.out _ 0 (x.lo + (q : Int)) 0 0 0 (HS.out.ext (((Ext.al _ _).trans EX2.out).trans (Ext.al _ _)))).mono ?_
              rintro e w5 ⟨m, rfl, hmi, hE5⟩
              have ln := hmi.len 3
              rw [show (((kindsOf (truthsL (sp.zip [0, (x.lo + (q : Int)), 0, 0, 0]))).num : Nat) : Int) = numK sp 1 (x.lo + (q : Int)) from rfl] at ln
              have BX5 := Lib.hid ((BX.out.alloc _).ext hE5)
              have EX5 := Lib.hid ((EX2.out.trans (Ext.al _ _)).trans hE5)
              clear hmi hE5
              go_wp2
              go_roundg (N - (q + 1))
              case measure => omega
              case rel => exact ⟨q + 1, by omega, by omega, by simp; omega, by rw [HWS.out], BX5.out, EX5.out⟩
            · go_wp2_with fail
              refine (HMA.out _ 0 0 (x.lo + (q : Int)) 0 0 (HS.out.ext (((Ext.al _ _).trans EX2.out).trans (Ext.al _ _)))).mono ?_
              rintro e w5 ⟨m, rfl, hmi, hE5⟩
              have ln := hmi.len 3
              rw [show (((kindsOf (truthsL (sp.zip [0, 0, (x.lo + (q : Int)), 0, 0]))).num : Nat) : Int) = numK sp 2 (x.lo + (q : Int)) from rfl] at ln
              have BX5 := Lib.hid ((BX.out.alloc _).ext hE5)
              have EX5 := Lib.hid ((EX2.out.trans (Ext.al _ _)).trans hE5)
              clear hmi hE5
              go_wp2
              go_roundg (N - (q + 1))
              case measure => omega
              case rel => exact ⟨q + 1, by omega, by omega, by simp; omega, by rw [HWS.out], BX5.out, EX5.out⟩
            · go_wp2_with fail
              refine (HMA.out _ 0 0 0 (x.lo + (q : Int)) 0 (HS.out.ext (((Ext.al _ _).trans EX2.out).trans (Ext.al _ _)))).mono ?_
              rintro e w5 ⟨m, rfl, hmi, hE5⟩
              have ln := hmi.len 3
              rw [show (((kindsOf (truthsL (sp.zip [0, 0, 0, (x.lo + (q : Int)), 0]))).num : Nat) : Int) = numK sp 3 (x.lo + (q : Int)) from rfl] at ln
              have BX5 := Lib.hid ((BX.out.alloc _).ext hE5)
              have EX5 := Lib.hid ((EX2.out.trans (Ext.al _ _)).trans hE5)
              clear hmi hE5
              go_wp2
              go_roundg (N - (q + 1))
              case measure => omega
              case rel => exact ⟨q + 1, by omega, by omega, by simp; omega, by rw [HWS.out], BX5.out, EX5.out⟩
            · go_wp2_with fail
              refine (HMA.out _ 0 0 0 0 (x.lo + (q : Int)) (HS.out.ext (((Ext.al _ _).trans EX2.out).trans (Ext.al _ _)))).mono ?_
              rintro e w5 ⟨m, rfl, hmi, hE5⟩
              have ln := hmi.len 3
              rw [show (((kindsOf (truthsL (sp.zip [0, 0, 0, 0, (x.lo + (q : Int))]))).num : Nat) : Int) = numK sp 4 (x.lo + (q : Int)) from rfl] at ln
              have BX5 := Lib.hid ((BX.out.alloc _).ext hE5)
              have EX5 := Lib.hid ((EX2.out.trans (Ext.al _ _)).trans hE5)
              clear hmi hE5
              go_wp2
              go_roundg (N - (q + 1))
              case measure => omega
              case rel => exact ⟨q + 1, by omega, by omega, by simp; omega, by rw [HWS.out], BX5.out, EX5.out⟩
          · have HQN := Lib.hid (show q = N by omega)
            have hgt : x.hi < x.lo + (q : Int) := by omega
            have HLQ := Lib.hid (show layN (numK sp) sp j = wst (numK sp j) x.lo q by rw [HLN.out, HQN.out])
            have HWB := Lib.hid (wst_bd (numK_bd sp j) x.lo q)
            have HAS := Lib.hid (show askTo (numK sp) sp 5 (j + 1) = if layN (numK sp) sp j < (askTo (numK sp) sp 5 j).2 then ((j : Int), layN (numK sp) sp j) else askTo (numK sp) sp 5 j from rfl)
            rw [HA.out, HLQ.out] at HAS
            dsimp only at HAS
            generalize wst (numK sp j) x.lo q = wv at *
            by_cases hlt : wv < few
            · rw [if_pos hlt] at HAS
              go_wp2
              go_roundg (sp.length - (j + 1))
              case measure => omega
              case rel => exact ⟨j + 1, (j : Int), wv, by omega, by omega, by simp, rfl, rfl, HAS.out, EX2.out⟩
            · rw [if_neg hlt] at HAS
              go_wp2
              go_roundg (sp.length - (j + 1))
              case measure => omega
              case rel => exact ⟨j + 1, at', few, by omega, by omega, by simp, rfl, rfl, HAS.out, EX2.out⟩
      · have HJ := Lib.hid (show askB b = (at', few) by rw [HK.out, ← HA.out, show j = sp.length by omega])
        go_wp2
        refine bodyPost_ret (v := .tuple #[.int .i64 at', .int .i64 few, .int .i64 0]) (by simp [results, Tryd.results41, go_sem]) rfl ?_
        exact ⟨by rw [HJ.out, HZ.out], HEW.out.trans ((Ext.al _ _).trans EX.out)⟩
  · have HK := Lib.hid (show askB b = (0, 0) by unfold askB; rw [if_neg hz9])
    obtain rfl := hpz hz9
    generalize hE9 : askE b true 0 = E at hz9
    have HE9 := Lib.hid hE9; clear hE9 hpv hpz
    have HE1 := Lib.hid (HEW.out.alloc (.cells #[.int .i64 0, .int .i64 0, .int .i64 0, .int .i64 0, .slice none 0 0, .slice none 0 0, .slice none 0 0, .slice none 0 0] 106))
    go_wp2
    refine bodyPost_ret (v := .tuple #[.int .i64 0, .int .i64 0, .int .i64 E]) (by simp [results, Tryd.results41, go_sem]) rfl ?_
    exact ⟨by rw [HK.out, HE9.out], HE1.out⟩
end Go.Proofs.YtdlipbobfgdleaaDoor
/- The reference's pinned and Ask. -/
namespace Go.Proofs.YtdlipbobfgdleaaDoor
open Go.RowKit Go.Shelf Go.Lib
set_option maxRecDepth 100000
set_option linter.unusedSimpArgs false

theorem cell_set2 {W : World} {g p q : Nat} {u0 v : Value} (h0 : W.cell? ⟨g, p, none⟩ = some u0) : (W.setCell ⟨g, p, none⟩ v).cell? ⟨g, q, none⟩ = if p = q then some v else W.cell? ⟨g, q, none⟩ := by
  by_cases hpq : p = q
  · subst hpq; rw [if_pos rfl]; exact World.cell?_setCell_same (h := h0) ..
  · rw [if_neg hpq]; exact World.cell?_setCell_other (h := by intro e; injection e with _ e _; exact hpq e) ..
theorem Sl.put2 {W : World} {g o n c i : Nat} {l : List Span} {x : Span} (h : SlS W (.slice (some ⟨g, o, none⟩) n c) l) (hi : i < n) :
    SlS ((W.setCell ⟨g, o + i * 2, none⟩ (.int .i64 x.lo)).setCell ⟨g, o + i * 2 + 1, none⟩ (.int .i64 x.hi)) (.slice (some ⟨g, o, none⟩) n c) (l.set i x) := by
  obtain ⟨b, off, y, e1, hy, hb, hyc⟩ := h.at_ hi
  injection e1 with e1
  injection e1 with e1 e2
  subst e1 e2
  obtain ⟨c0, c1⟩ := SlS.cells hyc (Ext.refl _)
  obtain ⟨a', c', hv, hl, hc, hcell⟩ := h
  injection hv with e1 e2 e3
  subst e1 e2 e3
  refine ⟨_, _, by rw [List.length_set], by rw [List.length_set]; exact hl, hc, fun h0 => ?_⟩
  rw [List.length_set] at h0
  obtain ⟨b', off', hA, hb', hcell⟩ := hcell h0
  injection hA with hA
  injection hA with e1 e2
  subst e1 e2
  refine ⟨_, _, rfl, by simpa [World.setCell] using hb', fun k z hk j u hu => ?_⟩
  have c1' : (W.setCell ⟨g, o + i * 2, none⟩ (.int .i64 x.lo)).cell? ⟨g, o + i * 2 + 1, none⟩ = some (.int .i64 y.hi) := by rw [cell_set2 c0, if_neg (by omega)]; exact c1
  rw [cell_set2 c1', cell_set2 c0]
  have hj : j = 0 ∧ u = .int .i64 z.lo ∨ j = 1 ∧ u = .int .i64 z.hi := by
    match j, hu with
    | 0, hu => left; simp at hu; exact ⟨rfl, hu.symm⟩
    | 1, hu => right; simp at hu; exact ⟨rfl, hu.symm⟩
  rw [List.getElem?_set] at hk
  by_cases hik : i = k
  · subst hik
    simp only [if_true] at hk
    rw [if_pos (by omega)] at hk
    injection hk with hk
    subst hk
    rcases hj with ⟨rfl, rfl⟩ | ⟨rfl, rfl⟩
    · rw [if_neg (by omega), if_pos (by omega)]
    · rw [if_pos (by omega)]
  · rw [if_neg hik] at hk
    have := hcell k z hk j u hu
    rcases hj with ⟨rfl, rfl⟩ | ⟨rfl, rfl⟩
    · rw [if_neg (by omega), if_neg (by omega)]; exact this
    · rw [if_neg (by omega), if_neg (by omega)]; exact this

theorem own_succ2 {W : World} {base : Nat} {e : TypeId} {size : Nat} {v : Value} {k : Nat} {xs : List Value} (h : W.ownsRow base e size v (k + 1) xs) : ∃ g cap, v = .slice (some ⟨g, 0, none⟩) (k + 1) cap ∧ base ≤ g ∧ ∃ row, W.heap[g]? = some (.cells row e (0, 0)) := by
  rcases h.2 with ⟨_, h0⟩ | ⟨g, cap, row, rfl, hg, hh, _⟩
  · omega
  · exact ⟨g, cap, rfl, hg, row, hh⟩

theorem wpList_copyS {ops : Array Oper} {rest : List Oper} {o : Oper} {a : Act} {Q : Exit → Act → World → Prop} {W : World} (hgd : o.guard = none) (s x : Operand)
    (ho : o.op = .call { callee := .builtin .append, args := #[s, x], argTypes := #[92, 92] }) {base g : Nat} (hs : a.eval s = .slice (some ⟨g, 0, none⟩) 0 0) {v : Value} (hx : a.eval x = v)
    (hB : Blk W g 23 #[]) (hg : base ≤ g) (hW : base ≤ W.heap.size) {l : List Span} (hl : SlS W v l) (hlen : l.length ≤ 1000)
    (h : ∀ v' W', Own encS 23 2 W' base v' l → Ext W W' → wpList Tryd.prog ops Q rest (a.put o.dst v') W') : wpList Tryd.prog ops Q (o :: rest) a W := by
  obtain ⟨v', W', hr, h1, h2⟩ := run_copy (t := 92) (ty := o.type) (enc := encS) (sz := 2) Tryd.underlying92 info23x rfl (by decide) (by decide) (fun _ => rfl) hB hg hW hl hlen
  refine wpList_plain hgd fun K hK => ?_
  unfold Oper.wp execOp
  simp only [ho, resolve, invoke, builtin, Sem.run_bind, Sem.run_pure, Result.andThen_ok, List.map_toArray, List.map_cons, List.map_nil, hs, hx, hr]
  exact hK _ _ (h v' W' h1 h2)

set_option maxHeartbeats 1000000 in
theorem pinned_any {sp : List Span} (i : Nat) (n : Int) (sv : Value) (w : World) (hi : i < sp.length) (h5 : sp.length ≤ 1000) (hs : SlS w sv sp) :
    Calls Tryd.prog 100 #[sv, .int .i64 (i : Int), .int .i64 n] w fun e w' => ∃ b' o' c', e = .returned (.slice (some ⟨b', o', none⟩) sp.length c') ∧ SlS w' (.slice (some ⟨b', o', none⟩) sp.length c') (sp.set i ⟨n, n⟩) ∧ Ext w w' := by
  have HS := Lib.hid hs; clear hs
  have H5 := Lib.hid h5
  have hiz : (i : Int) < (sp.length : Int) := by omega
  have hi0 : (0 : Int) ≤ (i : Int) := by omega
  go_enter Tryd.func100, Tryd.ntmps100
  go_wp2_with (at_builtin; refine wpList_copyS rfl (.tmp 8) (.tmp 9) rfl (base := w.heap.size) (g := w.heap.size) rfl rfl (Blk.new _ _ _) (Nat.le_refl _) (by simp) (HS.out.ext (Ext.al _ _)) H5.out ?_)
  intro v1 w1 hown hext
  have HE := Lib.hid (show Ext w w1 from (Ext.al _ _).trans hext)
  have hsl : SlS w1 v1 sp := Own.sl (enc := encS) (fun _ => rfl) hown
  obtain ⟨m, hm⟩ : ∃ m, sp.length = m + 1 := ⟨sp.length - 1, by omega⟩
  unfold Own at hown
  rw [hm] at hown
  obtain ⟨g, cap, rfl, hg, row, hrow⟩ := own_succ2 hown
  rw [← hm] at hsl ⊢
  obtain ⟨bb, off, y, e1, hy, hb, hyc⟩ := hsl.at_ (show i < sp.length from hi)
  injection e1 with e1
  injection e1 with e1 e2
  subst e1 e2
  obtain ⟨c0, c1⟩ := SlS.cells hyc (Ext.refl _)
  have HSL := Lib.hid hsl
  simp only [Nat.zero_add] at c0 c1
  have f0 : ∀ j, w1.frozen? ⟨g, j, none⟩ = false := fun j => by simp [World.frozen?, hrow]
  have HGE := Lib.hid hg
  clear hown hext hsl hm hyc hy hg h5 hrow
  go_wp2
  go_ret
  exact ⟨g, 0, cap, rfl, by have := HSL.out.put2 (x := ⟨n, n⟩) hi; simpa using this, (HE.out.setCell HGE.out _).setCell HGE.out _⟩

def numR (sp : List Span) (j : Nat) (n : Int) : Int := ((rk S4.none (exts [] (zOf (sp.set j ⟨n, n⟩)))).num : Nat)
def raskB (b : Bale) : Int × Int := if askE b true 0 = 0 then askTo (numR (spans b)) (spans b) 9 (spans b).length else (0, 0)
theorem numR_bd (sp : List Span) (j : Nat) (n : Int) : 0 ≤ numR sp j n ∧ numR sp j n ≤ 4 := by
  unfold numR; have := S4.num_le (rk S4.none (exts [] (zOf (sp.set j ⟨n, n⟩)))); omega

set_option maxHeartbeats 4000000 in
theorem refAsk_any (b : Bale) (dv wv : Value) (w : World) (hd : SlD w dv b.draws) (hw : SlW w wv b.weighs) :
    Calls Tryd.prog 42 #[valB b dv wv] w fun e w' => e = .returned (.tuple #[.int .i64 (raskB b).1, .int .i64 (raskB b).2, .int .i64 (askE b true 0)]) ∧ Ext w w' := by
  have HD := Lib.hid hd
  have HW := Lib.hid hw
  obtain ⟨A, n, cp, rfl, hn, hlc, hcm⟩ := hd.form
  obtain ⟨A2, n2, cp2, rfl, hn2, hlc2, hcm2⟩ := hw.form
  clear hd hw
  go_enter Tryd.func42, Tryd.ntmps42
  go_wp2_with fail
  refine (refAsked_any b _ _ _ (HD.out.ext (Ext.al _ _)) (HW.out.ext (Ext.al _ _))).mono ?_
  rintro e w2 ⟨sv, lv, rfl, hsl, hE2⟩
  have HE2 := Lib.hid ((Ext.al w _).trans hE2)
  clear hE2
  by_cases hz9 : askE b true 0 = 0
  · obtain ⟨hs, hl⟩ := hsl hz9
    obtain ⟨h1, h3⟩ : valid b = true ∧ okB b = true := by
      unfold askE at hz9
      split at hz9
      · simp at hz9; exact ⟨by assumption, hz9⟩
      · cases hz9
    have hb5 := valid_bds h1
    obtain ⟨Al, nl, cl, rfl, hnl, hlc', hlm⟩ := hl.form
    have hln := spans_len b
    have hl0 : 0 < (spans b).length := by have := hb5.l1; omega
    have hl5 : (spans b).length ≤ 5 := by have := hb5.l5; omega
    obtain ⟨As, cs, rfl, hsc, hsm, hcx⟩ := id hs
    obtain ⟨bs, os, rfl, hbs, -⟩ := hcx hl0
    have HBD := Lib.hid (show ∀ x ∈ spans b, 1 ≤ x.lo ∧ x.lo ≤ 9 ∧ x.hi ≤ 9 ∧ 1 ≤ x.hi from fun x hx => spans_bd h1 x hx)
    have HK := Lib.hid (show raskB b = askTo (numR (spans b)) (spans b) 9 (spans b).length by unfold raskB; rw [if_pos hz9])
    have HZ := Lib.hid hz9
    have HS := Lib.hid hs
    have HL5 := Lib.hid hl5; have HL0 := Lib.hid hl0
    generalize hsp : spans b = sp at *
    rw [hz9]
    clear hz9 hs hl hsl hsc hsm hcx hb5 h1 h3 hsp hln hl0 hl5 hbs
    go_wp2
    go_loopg [8, 9, 10, 11, 12, 13, 14] sp.length (fun gg s8 s9 s10 _ _ _ _ wr => ∃ (j : Nat) (at' few : Int), j ≤ sp.length ∧ sp.length - j ≤ gg ∧ s10 = .int .i64 j ∧ s8 = .int .i64 at' ∧ s9 = .int .i64 few ∧ Aside (askTo (numR sp) sp 9 j = (at', few)) ∧ Aside (Ext w2 wr))
    case atStart => exact ⟨0, 0, 9, by omega, by omega, rfl, rfl, rfl, rfl, Ext.refl _⟩
    case round =>
      obtain ⟨j, at', few, hj, hgg, rfl, rfl, rfl, HA, EX⟩ := hrel
      by_cases hjn : j < sp.length
      · have hjz : (j : Int) < (sp.length : Int) := by omega
        have hj0 : (0 : Int) ≤ (j : Int) := by omega
        obtain ⟨bb, off, x, e1, hx, hbb, hxc⟩ := HS.out.at_ hjn
        injection e1 with e1
        injection e1 with e1 e2
        subst e1 e2
        obtain ⟨c0, c1⟩ := SlS.cells hxc EX.out
        have HXC := Lib.hid hxc
        have hxb := HBD.out x (List.mem_of_getElem? hx)
        have HLN := Lib.hid (show layN (numR sp) sp j = wst (numR sp j) x.lo (x.hi - x.lo + 1).toNat by unfold layN; rw [hx])
        have hj5 : j < 5 := by have := HL5.out; omega
        generalize hN : (x.hi - x.lo + 1).toNat = N at *
        clear hx hxc
        go_wp2
        clear c0 c1
        go_loopg [11, 12, 13, 14] N (fun gg s11 s12 _ _ wr => ∃ q : Nat, q ≤ N ∧ N - q ≤ gg ∧ s12 = .int .i64 (x.lo + (q : Int)) ∧ s11 = .int .i64 (wst (numR sp j) x.lo q) ∧ Aside (Ext w2 wr))
        case atStart => exact ⟨0, by omega, by omega, by simp, rfl, EX.out⟩
        case round =>
          obtain ⟨q, hq, hgq, rfl, rfl, EX2⟩ := hrel
          obtain ⟨c0, c1⟩ := SlS.cells HXC.out EX2.out
          by_cases hqN : q < N
          · have hle : x.lo + (q : Int) ≤ x.hi := by omega
            have HWS := Lib.hid (show wst (numR sp j) x.lo (q + 1) = max (wst (numR sp j) x.lo q) (numR sp j (x.lo + (q : Int))) from rfl)
            go_wp2_with fail
            refine (pinned_any j (x.lo + (q : Int)) _ _ hjn (by have := HL5.out; omega) (HS.out.ext EX2.out)).mono ?_
            rintro e w5 ⟨b', o', c', rfl, hsl5, hE5⟩
            have HS5 := Lib.hid hsl5
            have EX5 := Lib.hid (EX2.out.trans hE5)
            clear hsl5 hE5 c0 c1
            have H := many_any (sp := sp.set j ⟨x.lo + (q : Int), x.lo + (q : Int)⟩) (bb := b') (off := o') (cs := c') w5 (by rw [List.length_set]; have := HL5.out; omega) (by rw [List.length_set]; exact HL0.out) (fun y hy => by
              rcases List.mem_or_eq_of_mem_set hy with hy | rfl
              · have := HBD.out y hy; omega
              · dsimp only; omega) (by rw [List.length_set]; exact HS5.out)
            rw [List.length_set] at H
            have HH := Lib.hid H; clear H
            go_wp2_with fail
            refine HH.out.mono ?_
            rintro e w6 ⟨rfl, hE6⟩
            have EX6 := Lib.hid (EX5.out.trans hE6)
            rw [show (((rk S4.none (exts [] (zOf (sp.set j ⟨x.lo + (q : Int), x.lo + (q : Int)⟩)))).num : Nat) : Int) = numR sp j (x.lo + (q : Int)) from rfl]
            generalize rk S4.none (exts [] (zOf (sp.set j ⟨x.lo + (q : Int), x.lo + (q : Int)⟩))) = s
            clear hE6
            show _
            dsimp only [flagsV]
            go_wp2
            go_roundg (N - (q + 1))
            case measure => omega
            case rel => exact ⟨q + 1, by omega, by omega, by simp; omega, by rw [HWS.out], EX6.out.alloc _⟩
          · have HQN := Lib.hid (show q = N by omega)
            have hgt : x.hi < x.lo + (q : Int) := by omega
            have HLQ := Lib.hid (show layN (numR sp) sp j = wst (numR sp j) x.lo q by rw [HLN.out, HQN.out])
            have HAS := Lib.hid (show askTo (numR sp) sp 9 (j + 1) = if layN (numR sp) sp j < (askTo (numR sp) sp 9 j).2 then ((j : Int), layN (numR sp) sp j) else askTo (numR sp) sp 9 j from rfl)
            rw [HA.out, HLQ.out] at HAS
            dsimp only at HAS
            generalize wst (numR sp j) x.lo q = wv at *
            by_cases hlt : wv < few
            · rw [if_pos hlt] at HAS
              go_wp2
              go_roundg (sp.length - (j + 1))
              case measure => omega
              case rel => exact ⟨j + 1, (j : Int), wv, by omega, by omega, by simp, rfl, rfl, HAS.out, EX2.out⟩
            · rw [if_neg hlt] at HAS
              go_wp2
              go_roundg (sp.length - (j + 1))
              case measure => omega
              case rel => exact ⟨j + 1, at', few, by omega, by omega, by simp, rfl, rfl, HAS.out, EX2.out⟩
      · have HJ := Lib.hid (show raskB b = (at', few) by rw [HK.out, ← HA.out, show j = sp.length by omega])
        go_wp2
        refine bodyPost_ret (v := .tuple #[.int .i64 at', .int .i64 few, .int .i64 0]) (by simp [results, Tryd.results42, go_sem]) rfl ?_
        exact ⟨by rw [HJ.out, HZ.out], HE2.out.trans EX.out⟩
  · have HK := Lib.hid (show raskB b = (0, 0) by unfold raskB; rw [if_neg hz9])
    generalize hE9 : askE b true 0 = E at hz9
    have HE9 := Lib.hid hE9; clear hE9 hsl
    go_wp2
    refine bodyPost_ret (v := .tuple #[.int .i64 0, .int .i64 0, .int .i64 E]) (by simp [results, Tryd.results42, go_sem]) rfl ?_
    exact ⟨by rw [HK.out, HE9.out], HE2.out⟩
end Go.Proofs.YtdlipbobfgdleaaDoor
/- The plain law: Ask. -/
namespace Go.Proofs.YtdlipbobfgdleaaDoor
open Go.RowKit Go.Shelf
set_option linter.unusedSimpArgs false

def truthsG : List (List Int) → List (List Int)
  | [] => [[]]
  | g :: r => g.flatMap fun n => (truthsG r).map (n :: ·)
theorem truthsL_G (z : List (Span × Int)) : truthsL z = truthsG (z.map fun y => gradesOf y.1 y.2) := by
  induction z with
  | nil => rfl
  | cons y z ih => rw [List.map_cons]; unfold truthsL truthsG; rw [ih]
theorem gTo_one {s : Span} {n : Int} (h1 : s.lo ≤ n) (hn : n ≠ 0) : ∀ k : Nat, gTo s n k = if n < s.lo + (k : Int) then [n] else []
  | 0 => by unfold gTo; simp; omega
  | k + 1 => by
    rw [gTo_succ, gTo_one h1 hn k]
    have h0 : (n == 0) = false := by simpa using hn
    rw [h0, Bool.false_or]
    by_cases he : n = s.lo + (k : Int)
    · rw [if_neg (by omega), if_pos (by simpa using he), if_pos (by omega), List.nil_append, ← he]
    · rw [if_neg (show ¬ ((n == s.lo + (k : Int)) = true) by simpa using he)]
      by_cases hl : n < s.lo + (k : Int)
      · rw [if_pos hl, if_pos (by omega)]; simp
      · rw [if_neg hl, if_neg (by omega)]; simp
theorem grades_pick {s : Span} {n : Int} (h1 : s.lo ≤ n) (h2 : n ≤ s.hi) (hn : n ≠ 0) : gradesOf s n = [n] := by
  unfold gradesOf; rw [gTo_one h1 hn, if_pos (by omega)]
theorem grades_pin (n : Int) : gradesOf ⟨n, n⟩ 0 = [n] := by
  unfold gradesOf gTo
  simp
theorem zeros_at (k : Nat) (h : k < 5) : ([0, 0, 0, 0, 0] : List Int)[k]? = some 0 := by
  obtain rfl | rfl | rfl | rfl | rfl : k = 0 ∨ k = 1 ∨ k = 2 ∨ k = 3 ∨ k = 4 := by omega
  all_goals rfl
theorem shown_at (j k : Nat) (n : Int) (h : k < 5) : (shown j n)[k]? = some (if j = k then n else 0) := by
  unfold shown
  rw [List.getElem?_set]
  by_cases hjk : j = k
  · subst hjk; simp [h]
  · rw [if_neg hjk, if_neg hjk, zeros_at k h]
theorem pin_eq {sp : List Span} (h5 : sp.length ≤ 5) {j : Nat} {x : Span} (hx : sp[j]? = some x) {n : Int} (h1 : x.lo ≤ n) (h2 : n ≤ x.hi) (hn : n ≠ 0) :
    truthsL ((sp.set j ⟨n, n⟩).zip [0, 0, 0, 0, 0]) = truthsL (sp.zip (shown j n)) := by
  rw [truthsL_G, truthsL_G]
  congr 1
  apply List.ext_getElem?
  intro k
  rw [List.getElem?_map, List.getElem?_map]
  by_cases hk : k < sp.length
  · obtain ⟨y, hy⟩ : ∃ y, sp[k]? = some y := ⟨_, List.getElem?_eq_getElem hk⟩
    have hz := zeros_at k (by omega)
    have hs := shown_at j k n (by omega)
    have e2 : (sp.zip (shown j n))[k]? = some (y, if j = k then n else 0) := by rw [List.getElem?_zip_eq_some]; exact ⟨hy, hs⟩
    rw [e2]
    by_cases hjk : j = k
    · subst hjk
      obtain rfl : y = x := by rw [hx] at hy; injection hy with h; exact h.symm
      have e1 : ((sp.set j ⟨n, n⟩).zip ([0, 0, 0, 0, 0] : List Int))[j]? = some (⟨n, n⟩, 0) := by
        rw [List.getElem?_zip_eq_some]
        refine ⟨?_, hz⟩
        rw [List.getElem?_set, if_pos rfl, if_pos hk]
      rw [e1]
      simp only [Option.map_some, if_true]
      rw [grades_pin, grades_pick h1 h2 hn]
    · have e1 : ((sp.set j ⟨n, n⟩).zip ([0, 0, 0, 0, 0] : List Int))[k]? = some (y, 0) := by
        rw [List.getElem?_zip_eq_some]
        refine ⟨?_, hz⟩
        rw [List.getElem?_set, if_neg hjk]; exact hy
      rw [e1, if_neg hjk]
  · have e1 : ((sp.set j ⟨n, n⟩).zip ([0, 0, 0, 0, 0] : List Int))[k]? = none := List.getElem?_eq_none (by rw [List.length_zip, List.length_set]; omega)
    have e2 : (sp.zip (shown j n))[k]? = none := List.getElem?_eq_none (by rw [List.length_zip]; omega)
    rw [e1, e2]
theorem num_eq {sp : List Span} (h5 : sp.length ≤ 5) (h0 : 0 < sp.length) (hb : ∀ x ∈ sp, 1 ≤ x.lo ∧ x.hi ≤ 9) {j : Nat} {x : Span} (hx : sp[j]? = some x) {n : Int} (h1 : x.lo ≤ n) (h2 : n ≤ x.hi) : numR sp j n = numK sp j n := by
  have hxb := hb x (List.mem_of_getElem? hx)
  unfold numR numK
  rw [rk_eq (by rw [List.length_set]; exact h5) (by rw [List.length_set]; exact h0) (fun y hy => by
    rcases List.mem_or_eq_of_mem_set hy with hy | rfl
    · exact hb y hy
    · dsimp only; omega), pin_eq h5 hx h1 h2 (by omega)]
theorem wst_eq {f g : Int → Int} {lo : Int} : ∀ k : Nat, (∀ i : Nat, i < k → f (lo + (i : Int)) = g (lo + (i : Int))) → wst f lo k = wst g lo k
  | 0, _ => rfl
  | k + 1, h => by unfold wst; rw [wst_eq k (fun i hi => h i (by omega)), h k (by omega)]
theorem layN_eq {sp : List Span} (h5 : sp.length ≤ 5) (h0 : 0 < sp.length) (hb : ∀ x ∈ sp, 1 ≤ x.lo ∧ x.hi ≤ 9) (j : Nat) : layN (numR sp) sp j = layN (numK sp) sp j := by
  unfold layN
  cases hx : sp[j]? with
  | none => rfl
  | some x => exact wst_eq _ fun i hi => num_eq h5 h0 hb hx (by omega) (by omega)
theorem layN_bd (sp : List Span) (j : Nat) : layN (numK sp) sp j ≤ 4 := by
  unfold layN
  split
  · exact (wst_bd (numK_bd sp j) _ _).2
  · omega
theorem ask_eq (b : Bale) : raskB b = askB b := by
  unfold raskB askB
  split
  · rename_i hz
    obtain ⟨h1, h3⟩ : valid b = true ∧ okB b = true := by
      unfold askE at hz
      split at hz
      · simp at hz; exact ⟨by assumption, hz⟩
      · cases hz
    have hB := valid_bds h1
    have hl := spans_len b
    have h5 : (spans b).length ≤ 5 := by have := hB.l5; omega
    have h0 : 0 < (spans b).length := by have := hB.l1; omega
    have hb : ∀ x ∈ spans b, 1 ≤ x.lo ∧ x.hi ≤ 9 := fun x hx => by have := spans_bd h1 x hx; omega
    unfold askS
    generalize spans b = sp at *
    have key : ∀ j, askTo (numR sp) sp 9 (j + 1) = askTo (numK sp) sp 5 (j + 1) := by
      intro j
      induction j with
      | zero =>
        unfold askTo
        rw [layN_eq h5 h0 hb]
        have := layN_bd sp 0
        rw [if_pos (by unfold askTo; dsimp only; omega), if_pos (by unfold askTo; dsimp only; omega)]
      | succ j ih =>
        rw [askTo, askTo.eq_2 (numK sp), ih, layN_eq h5 h0 hb]
    obtain ⟨m, hm⟩ : ∃ m, sp.length = m + 1 := ⟨sp.length - 1, by omega⟩
    rw [hm]; exact key m
  · rfl
end Go.Proofs.YtdlipbobfgdleaaDoor
/- The plain law: Decide. -/
namespace Go.Proofs.YtdlipbobfgdleaaDoor
open Go.RowKit Go.Shelf
set_option linter.unusedSimpArgs false

/-- What a truth shows at some layers. -/
def restr (l : List Int) (t : List Int) : List Int := l.foldl (fun s i => s.set i.toNat (t[i.toNat]?.getD 0)) [0, 0, 0, 0, 0]
theorem restr_fold (t : List Int) (j : Nat) : ∀ (l s : List Int), (∀ i ∈ l, 0 ≤ i) → j < s.length →
    (l.foldl (fun s i => s.set i.toNat (t[i.toNat]?.getD 0)) s)[j]? = if (j : Int) ∈ l then some (t[j]?.getD 0) else s[j]?
  | [], s, _, _ => by simp
  | i :: l, s, h, hj => by
    rw [List.foldl_cons, restr_fold t j l _ (fun k hk => h k (List.mem_cons_of_mem _ hk)) (by rw [List.length_set]; exact hj)]
    have hi := h i (List.mem_cons_self ..)
    by_cases hm : (j : Int) ∈ l
    · rw [if_pos hm, if_pos (List.mem_cons_of_mem _ hm)]
    · rw [if_neg hm]
      by_cases hij : i = (j : Int)
      · subst hij
        rw [if_pos (List.mem_cons_self ..), List.getElem?_set]
        simp [hj]
      · rw [if_neg (by simp [hm, Ne.symm hij]), List.getElem?_set, if_neg (by omega)]
theorem restr_len (l t : List Int) : (restr l t).length = 5 := by
  unfold restr
  have : ∀ (l s : List Int), s.length = 5 → (l.foldl (fun s i => s.set i.toNat (t[i.toNat]?.getD 0)) s).length = 5 := by
    intro l
    induction l with
    | nil => intro s h; exact h
    | cons i l ih => intro s h; rw [List.foldl_cons]; exact ih _ (by rw [List.length_set]; exact h)
  exact this l _ rfl
theorem restr_at {l : List Int} (h : ∀ i ∈ l, 0 ≤ i) (t : List Int) {j : Nat} (hj : j < 5) : (restr l t)[j]? = some (if (j : Int) ∈ l then t[j]?.getD 0 else 0) := by
  unfold restr
  rw [restr_fold t j l _ h (by simpa using hj), zeros_at j hj]
  split <;> rfl
theorem restr_iff {l : List Int} (h : ∀ i ∈ l, 0 ≤ i ∧ i < 5) (t u : List Int) : restr l t = restr l u ↔ ∀ i ∈ l, t[i.toNat]?.getD 0 = u[i.toNat]?.getD 0 := by
  have h0 : ∀ i ∈ l, 0 ≤ i := fun i hi => (h i hi).1
  constructor
  · intro e i hi
    have hb := h i hi
    have e1 := restr_at h0 t (j := i.toNat) (by omega)
    have e2 := restr_at h0 u (j := i.toNat) (by omega)
    have hm : ((i.toNat : Nat) : Int) ∈ l := by rw [show ((i.toNat : Nat) : Int) = i by omega]; exact hi
    rw [if_pos hm] at e1 e2
    rw [e, e2] at e1
    injection e1 with e1
    exact e1.symm
  · intro e
    apply List.ext_getElem?
    intro j
    by_cases hj : j < 5
    · rw [restr_at h0 t hj, restr_at h0 u hj]
      by_cases hm : (j : Int) ∈ l
      · rw [if_pos hm, if_pos hm]
        have := e _ hm
        simp only [Int.toNat_natCast] at this
        rw [this]
      · rw [if_neg hm, if_neg hm]
    · rw [List.getElem?_eq_none (by rw [restr_len]; omega), List.getElem?_eq_none (by rw [restr_len]; omega)]

/-- Truths that look alike at some layers are of one kind. -/
def consB (l : List Int) (T : List (List Int)) : Bool := decide (∀ t ∈ T, ∀ u ∈ T, restr l t = restr l u → kindL t = kindL u)
theorem consB_iff (l : List Int) (T : List (List Int)) : consB l T = true ↔ ∀ t ∈ T, ∀ u ∈ T, restr l t = restr l u → kindL t = kindL u := by unfold consB; simp

theorem kindsOf_iff (T : List (List Int)) : ((kindsOf T).a = true ↔ ∃ t ∈ T, kindL t = 1) ∧ ((kindsOf T).b = true ↔ ∃ t ∈ T, kindL t = 2) ∧ ((kindsOf T).c = true ↔ ∃ t ∈ T, kindL t = 3) ∧ ((kindsOf T).d = true ↔ ∃ t ∈ T, kindL t = 4) := by
  have key : ∀ (T : List (List Int)) (s : S4), ((T.foldl (fun s l => s.add (kindL l)) s).a = true ↔ s.a = true ∨ ∃ t ∈ T, kindL t = 1) ∧ ((T.foldl (fun s l => s.add (kindL l)) s).b = true ↔ s.b = true ∨ ∃ t ∈ T, kindL t = 2) ∧
      ((T.foldl (fun s l => s.add (kindL l)) s).c = true ↔ s.c = true ∨ ∃ t ∈ T, kindL t = 3) ∧ ((T.foldl (fun s l => s.add (kindL l)) s).d = true ↔ s.d = true ∨ ∃ t ∈ T, kindL t = 4) := by
    intro T
    induction T with
    | nil => intro s; simp
    | cons t T ih =>
      intro s
      rw [List.foldl_cons]
      obtain ⟨h1, h2, h3, h4⟩ := ih (s.add (kindL t))
      rw [h1, h2, h3, h4]
      simp only [S4.add, Bool.or_eq_true, decide_eq_true_eq, List.mem_cons, exists_eq_or_imp, or_assoc, and_self]
  have := key T S4.none
  simpa [kindsOf, S4.none] using this

theorem num_one {T : List (List Int)} (h0 : T ≠ []) : ((kindsOf T).num == 1) = consB [] T := by
  obtain ⟨h1, h2, h3, h4⟩ := kindsOf_iff T
  obtain ⟨t0, ht0⟩ := List.exists_mem_of_ne_nil T h0
  rw [Bool.eq_iff_iff, consB_iff]
  simp only [beq_iff_eq]
  have hr : ∀ t u, (restr [] t = restr [] u → kindL t = kindL u) ↔ kindL t = kindL u := fun t u => by simp [restr]
  simp only [hr]
  generalize kindsOf T = s at *
  obtain ⟨a, b, c, d⟩ := s
  simp only at h1 h2 h3 h4
  constructor
  · intro hn t ht u hu
    have kt := kindL_bd t
    have ku := kindL_bd u
    have ft : ∀ v ∈ T, (kindL v = 1 → a = true) ∧ (kindL v = 2 → b = true) ∧ (kindL v = 3 → c = true) ∧ (kindL v = 4 → d = true) := fun v hv =>
      ⟨fun e => h1.2 ⟨v, hv, e⟩, fun e => h2.2 ⟨v, hv, e⟩, fun e => h3.2 ⟨v, hv, e⟩, fun e => h4.2 ⟨v, hv, e⟩⟩
    obtain ⟨t1, t2, t3, t4⟩ := ft t ht
    obtain ⟨u1, u2, u3, u4⟩ := ft u hu
    rcases four kt.1 kt.2 with e | e | e | e <;> rcases four ku.1 ku.2 with e' | e' | e' | e' <;> first
      | (rw [e, e']; done)
      | (exfalso; cases a <;> cases b <;> cases c <;> cases d <;> simp [S4.num] at hn <;> simp_all)
  · intro hall
    have k0 := kindL_bd t0
    have one : ∀ v ∈ T, kindL v = kindL t0 := fun v hv => hall v hv t0 ht0
    have ha : a = decide (kindL t0 = 1) := by
      rw [Bool.eq_iff_iff, h1]; simp; exact ⟨fun ⟨v, hv, e⟩ => by rw [← one v hv]; exact e, fun e => ⟨t0, ht0, e⟩⟩
    have hb : b = decide (kindL t0 = 2) := by
      rw [Bool.eq_iff_iff, h2]; simp; exact ⟨fun ⟨v, hv, e⟩ => by rw [← one v hv]; exact e, fun e => ⟨t0, ht0, e⟩⟩
    have hc : c = decide (kindL t0 = 3) := by
      rw [Bool.eq_iff_iff, h3]; simp; exact ⟨fun ⟨v, hv, e⟩ => by rw [← one v hv]; exact e, fun e => ⟨t0, ht0, e⟩⟩
    have hd : d = decide (kindL t0 = 4) := by
      rw [Bool.eq_iff_iff, h4]; simp; exact ⟨fun ⟨v, hv, e⟩ => by rw [← one v hv]; exact e, fun e => ⟨t0, ht0, e⟩⟩
    subst ha hb hc hd
    rcases four k0.1 k0.2 with e | e | e | e <;> rw [e] <;> decide

theorem gTo_mem (s : Span) (n : Int) : ∀ k : Nat, n ∈ gTo s 0 k ↔ s.lo ≤ n ∧ n < s.lo + (k : Int)
  | 0 => by unfold gTo; simp
  | k + 1 => by
    rw [gTo_succ, if_pos (by simp), List.mem_append, gTo_mem s n k, List.mem_singleton]
    omega
theorem grades_mem (s : Span) (n : Int) : n ∈ gradesOf s 0 ↔ s.lo ≤ n ∧ n ≤ s.hi := by
  unfold gradesOf
  rw [gTo_mem]
  omega
theorem truthsG_mem : ∀ (G : List (List Int)) (t : List Int), t ∈ truthsG G ↔ t.length = G.length ∧ ∀ (i : Nat) g, G[i]? = some g → ∃ n ∈ g, t[i]? = some n
  | [], t => by
    simp [truthsG]
  | g :: G, t => by
    unfold truthsG
    simp only [List.mem_flatMap, List.mem_map]
    constructor
    · rintro ⟨n, hn, u, hu, rfl⟩
      obtain ⟨h1, h2⟩ := (truthsG_mem G u).1 hu
      refine ⟨by simp [h1], fun i g' hi => ?_⟩
      cases i with
      | zero => simp at hi; subst hi; exact ⟨n, hn, by simp⟩
      | succ i => simp at hi; simpa using h2 i g' hi
    · rintro ⟨h1, h2⟩
      obtain ⟨n, hn, h3⟩ := h2 0 g rfl
      match t, h1 with
      | m :: u, h1 =>
        simp at h3
        subst h3
        refine ⟨m, hn, u, (truthsG_mem G u).2 ⟨by simpa using h1, fun i g' hi => ?_⟩, rfl⟩
        simpa using h2 (i + 1) g' (by simpa using hi)
theorem truths_mem {sp : List Span} (h5 : sp.length ≤ 5) (t : List Int) : t ∈ truthsL (sp.zip [0, 0, 0, 0, 0]) ↔ t.length = sp.length ∧ ∀ (i : Nat) x, sp[i]? = some x → ∃ n, (x.lo ≤ n ∧ n ≤ x.hi) ∧ t[i]? = some n := by
  rw [truthsL_G, truthsG_mem, List.length_map, List.length_zip]
  have hmin : min sp.length ([0, 0, 0, 0, 0] : List Int).length = sp.length := by simp; omega
  rw [hmin]
  refine and_congr_right fun hl => ?_
  constructor
  · intro h i x hx
    have hi : i < sp.length := (List.getElem?_eq_some_iff.1 hx).1
    have e : (sp.zip ([0, 0, 0, 0, 0] : List Int))[i]? = some (x, 0) := by rw [List.getElem?_zip_eq_some]; exact ⟨hx, zeros_at i (by omega)⟩
    obtain ⟨n, hn, hn2⟩ := h i (gradesOf x 0) (by rw [List.getElem?_map, e]; rfl)
    exact ⟨n, (grades_mem x n).1 hn, hn2⟩
  · intro h i g hg
    rw [List.getElem?_map] at hg
    cases e : (sp.zip ([0, 0, 0, 0, 0] : List Int))[i]? with
    | none => rw [e] at hg; cases hg
    | some y =>
      rw [e] at hg
      obtain ⟨hx, hz⟩ := List.getElem?_zip_eq_some.1 e
      have hi : i < sp.length := (List.getElem?_eq_some_iff.1 hx).1
      rw [zeros_at i (by omega)] at hz
      injection hz with hz
      simp only [Option.map_some] at hg
      injection hg with hg
      obtain ⟨n, hn, hn2⟩ := h i y.1 hx
      refine ⟨n, ?_, hn2⟩
      rw [← hg, ← hz]
      exact (grades_mem y.1 n).2 hn
theorem truths_ne {sp : List Span} (h5 : sp.length ≤ 5) (hb : ∀ x ∈ sp, x.lo ≤ x.hi) : truthsL (sp.zip [0, 0, 0, 0, 0]) ≠ [] := by
  have : sp.map (·.lo) ∈ truthsL (sp.zip [0, 0, 0, 0, 0]) := (truths_mem h5 _).2 ⟨by simp, fun i x hx => ⟨x.lo, ⟨by omega, hb x (List.mem_of_getElem? hx)⟩, by rw [List.getElem?_map, hx]; rfl⟩⟩
  intro e
  rw [e] at this
  cases this

/-- All numbers of a span. -/
def rangeS (x : Span) : List Int := (List.range (x.hi - x.lo + 1).toNat).map fun (q : Nat) => x.lo + (q : Int)
theorem rangeS_mem (x : Span) (n : Int) : n ∈ rangeS x ↔ x.lo ≤ n ∧ n ≤ x.hi := by
  unfold rangeS
  simp only [List.mem_map, List.mem_range]
  constructor
  · rintro ⟨q, hq, rfl⟩; omega
  · intro h; exact ⟨(n - x.lo).toNat, by omega, by omega⟩
/-- As the reference decides. -/
def decR (sp : List Span) : List Int → Bool
  | [] => (rk S4.none (exts [] (zOf sp))).num == 1
  | i :: l => match sp[i.toNat]? with
    | some x => (rangeS x).all fun n => decR (sp.set i.toNat ⟨n, n⟩) l
    | none => true

theorem set_mem {sp : List Span} (h5 : sp.length ≤ 5) {i : Nat} {x : Span} (hx : sp[i]? = some x) {n : Int} (hn : x.lo ≤ n ∧ n ≤ x.hi) (t : List Int) :
    t ∈ truthsL ((sp.set i ⟨n, n⟩).zip [0, 0, 0, 0, 0]) ↔ t ∈ truthsL (sp.zip [0, 0, 0, 0, 0]) ∧ t[i]? = some n := by
  have hi : i < sp.length := (List.getElem?_eq_some_iff.1 hx).1
  rw [truths_mem (by rw [List.length_set]; exact h5), truths_mem h5, List.length_set]
  constructor
  · rintro ⟨h1, h2⟩
    obtain ⟨m, hm, hm2⟩ := h2 i ⟨n, n⟩ (by rw [List.getElem?_set, if_pos rfl, if_pos hi])
    dsimp only at hm
    obtain rfl : m = n := by omega
    refine ⟨⟨h1, fun k y hy => ?_⟩, hm2⟩
    by_cases hk : i = k
    · subst hk
      rw [hx] at hy
      injection hy with hy
      subst hy
      exact ⟨_, hn, hm2⟩
    · exact h2 k y (by rw [List.getElem?_set, if_neg hk]; exact hy)
  · rintro ⟨⟨h1, h2⟩, h3⟩
    refine ⟨h1, fun k y hy => ?_⟩
    rw [List.getElem?_set] at hy
    by_cases hk : i = k
    · subst hk
      rw [if_pos rfl, if_pos hi] at hy
      injection hy with hy
      subst hy
      exact ⟨n, ⟨Int.le_refl _, Int.le_refl _⟩, h3⟩
    · rw [if_neg hk] at hy
      exact h2 k y hy

theorem decR_eq : ∀ (l : List Int) (sp : List Span), sp.length ≤ 5 → 0 < sp.length → (∀ x ∈ sp, 1 ≤ x.lo ∧ x.lo ≤ x.hi ∧ x.hi ≤ 9) → (∀ i ∈ l, 0 ≤ i ∧ i < (sp.length : Int)) →
    decR sp l = consB l (truthsL (sp.zip [0, 0, 0, 0, 0]))
  | [], sp, h5, h0, hb, _ => by
    unfold decR
    rw [rk_eq h5 h0 (fun x hx => by have := hb x hx; omega)]
    exact num_one (truths_ne h5 fun x hx => (hb x hx).2.1)
  | i :: l, sp, h5, h0, hb, hl => by
    have hi := hl i (List.mem_cons_self ..)
    have hl' : ∀ k ∈ l, 0 ≤ k ∧ k < (sp.length : Int) := fun k hk => hl k (List.mem_cons_of_mem _ hk)
    have h5' : ∀ k ∈ l, 0 ≤ k ∧ k < 5 := fun k hk => by have := hl' k hk; omega
    have h5c : ∀ k ∈ i :: l, 0 ≤ k ∧ k < 5 := fun k hk => by have := hl k hk; omega
    obtain ⟨x, hx⟩ : ∃ x, sp[i.toNat]? = some x := ⟨_, List.getElem?_eq_getElem (by omega)⟩
    have hxb := hb x (List.mem_of_getElem? hx)
    unfold decR
    rw [hx]
    simp only
    rw [Bool.eq_iff_iff, List.all_eq_true, consB_iff]
    have ih : ∀ n ∈ rangeS x, decR (sp.set i.toNat ⟨n, n⟩) l = consB l (truthsL ((sp.set i.toNat ⟨n, n⟩).zip [0, 0, 0, 0, 0])) := fun n hn => by
      have hn := (rangeS_mem x n).1 hn
      exact decR_eq l _ (by rw [List.length_set]; exact h5) (by rw [List.length_set]; exact h0) (fun y hy => by
        rcases List.mem_or_eq_of_mem_set hy with hy | rfl
        · exact hb y hy
        · dsimp only; omega) (by rw [List.length_set]; exact hl')
    constructor
    · intro h t ht u hu e
      have e2 := (restr_iff h5c t u).1 e
      obtain ⟨_, h2⟩ := (truths_mem h5 t).1 ht
      obtain ⟨_, h3⟩ := (truths_mem h5 u).1 hu
      obtain ⟨n, hn, htn⟩ := h2 _ x hx
      obtain ⟨m, hm, hum⟩ := h3 _ x hx
      have e3 := e2 i (List.mem_cons_self ..)
      rw [htn, hum] at e3
      simp at e3
      subst e3
      have hd := h n ((rangeS_mem x n).2 hn)
      rw [ih n ((rangeS_mem x n).2 hn), consB_iff] at hd
      exact hd t ((set_mem h5 hx hn t).2 ⟨ht, htn⟩) u ((set_mem h5 hx hn u).2 ⟨hu, hum⟩) ((restr_iff h5' t u).2 fun k hk => e2 k (List.mem_cons_of_mem _ hk))
    · intro h n hn
      rw [ih n hn, consB_iff]
      have hn := (rangeS_mem x n).1 hn
      intro t ht u hu e
      obtain ⟨ht1, ht2⟩ := (set_mem h5 hx hn t).1 ht
      obtain ⟨hu1, hu2⟩ := (set_mem h5 hx hn u).1 hu
      refine h t ht1 u hu1 ((restr_iff h5c t u).2 fun k hk => ?_)
      rcases List.mem_cons.1 hk with rfl | hk
      · rw [ht2, hu2]
      · exact (restr_iff h5' t u).1 e k hk

/-! lists of numbers -/
def combos : Nat → List Int → List (List Int)
  | 0, _ => [[]]
  | _ + 1, [] => []
  | n + 1, x :: r => (combos n r).map (x :: ·) ++ combos (n + 1) r
def listsL (all : List Int) (most : Nat) : List (List Int) := (List.range (min most all.length + 1)).flatMap fun n => combos n all
def ints (n : Nat) : List Int := (List.range n).map fun (i : Nat) => (i : Int)
def setOf (n s : Nat) : List Int := ((List.range n).filter fun i => s / 2 ^ i % 2 == 1).map fun (i : Nat) => (i : Int)
def setsL (n : Nat) : List (List Int) := (List.range (2 ^ n)).map (setOf n)
def lexL : List Int → List Int → Bool
  | x :: a, y :: b => if x ≠ y then decide (x < y) else lexL a b
  | _, _ => false
def beforeL (a b : List Int) : Bool := if a.length ≠ b.length then decide (a.length < b.length) else lexL a b
theorem lex_trans : ∀ {a b c : List Int}, lexL a b = true → lexL b c = true → lexL a c = true
  | x :: a, y :: b, z :: c, h1, h2 => by
    unfold lexL at h1 h2 ⊢
    by_cases hxy : x = y
    · subst hxy
      simp only [ne_eq, not_true, if_false] at h1
      by_cases hxz : x = z
      · subst hxz
        simp only [ne_eq, not_true, if_false] at h2 ⊢
        exact lex_trans h1 h2
      · simp only [ne_eq, hxz, not_false_eq_true, if_true] at h2 ⊢
        exact h2
    · simp only [ne_eq, hxy, not_false_eq_true, if_true, decide_eq_true_eq] at h1
      by_cases hyz : y = z
      · subst hyz
        simp only [ne_eq, hxy, not_false_eq_true, if_true, decide_eq_true_eq]
        exact h1
      · simp only [ne_eq, hyz, not_false_eq_true, if_true, decide_eq_true_eq] at h2
        rw [if_pos (by omega)]
        simp only [decide_eq_true_eq]
        omega
  | [], _, _, h1, _ => by simp [lexL] at h1
  | _ :: _, [], _, h1, _ => by simp [lexL] at h1
  | _ :: _, _ :: _, [], _, h2 => by simp [lexL] at h2
theorem before_trans {a b c : List Int} (h1 : beforeL a b = true) (h2 : beforeL b c = true) : beforeL a c = true := by
  unfold beforeL at *
  split at h1
  · simp only [decide_eq_true_eq] at h1
    split at h2
    · simp only [decide_eq_true_eq] at h2
      rw [if_pos (by omega)]; simp; omega
    · rw [if_pos (by omega)]; simp; omega
  · split at h2
    · simp only [decide_eq_true_eq] at h2
      rw [if_pos (by omega)]; simp; omega
    · rw [if_neg (by omega)]; exact lex_trans h1 h2
def pickStep (f : List Int → Bool) (s : List Int × Bool) (l : List Int) : List Int × Bool := if (!s.2 || beforeL l s.1) && f l then (l, true) else s
def pickL (f : List Int → Bool) (L : List (List Int)) : List Int × Bool := L.foldl (pickStep f) ([], false)
theorem pickL_snoc (f : List Int → Bool) (L : List (List Int)) (l : List Int) : pickL f (L ++ [l]) = pickStep f (pickL f L) l := by unfold pickL; rw [List.foldl_append]; rfl
theorem rev_ind {α : Type} {p : List α → Prop} (h0 : p []) (h : ∀ L x, p L → p (L ++ [x])) (L : List α) : p L := by
  have key : ∀ M : List α, p M.reverse := by
    intro M
    induction M with
    | nil => exact h0
    | cons x M ih => rw [List.reverse_cons]; exact h _ _ ih
  have := key L.reverse
  rwa [List.reverse_reverse] at this
theorem pick_spec (f : List Int → Bool) (irr : ∀ l, beforeL l l = false) (L : List (List Int)) : ((pickL f L).2 = true → (pickL f L).1 ∈ L ∧ f (pickL f L).1 = true ∧ ∀ l ∈ L, f l = true → beforeL l (pickL f L).1 = false) ∧ ((pickL f L).2 = false → ∀ l ∈ L, f l = false) := by
  refine rev_ind (p := fun L => ((pickL f L).2 = true → (pickL f L).1 ∈ L ∧ f (pickL f L).1 = true ∧ ∀ l ∈ L, f l = true → beforeL l (pickL f L).1 = false) ∧ ((pickL f L).2 = false → ∀ l ∈ L, f l = false)) (by simp [pickL]) (fun L l ih => ?_) L
  rw [pickL_snoc]
  generalize pickL f L = s at *
  obtain ⟨i1, i2⟩ := ih
  unfold pickStep
  by_cases hc : ((!s.2 || beforeL l s.1) && f l) = true
  · rw [if_pos hc]
    simp only [Bool.and_eq_true, Bool.or_eq_true, Bool.not_eq_true'] at hc
    refine ⟨fun _ => ⟨by simp, hc.2, fun x hx hfx => ?_⟩, fun h => by cases h⟩
    rcases List.mem_append.1 hx with hx | hx
    · rcases hc.1 with hs | hs
      · rw [i2 hs x hx] at hfx; cases hfx
      · cases hs2 : s.2 with
        | false => rw [i2 hs2 x hx] at hfx; cases hfx
        | true =>
          have := (i1 hs2).2.2 x hx hfx
          cases hb : beforeL x l with
          | false => rfl
          | true => rw [before_trans hb hs] at this; cases this
    · simp at hx; subst hx; exact irr _
  · rw [if_neg hc]
    refine ⟨fun h => ?_, fun h x hx => ?_⟩
    · obtain ⟨j1, j2, j3⟩ := i1 h
      refine ⟨List.mem_append_left _ j1, j2, fun x hx hfx => ?_⟩
      rcases List.mem_append.1 hx with hx | hx
      · exact j3 x hx hfx
      · simp at hx; subst hx
        rw [h] at hc
        simp only [hfx, Bool.not_true, Bool.false_or, Bool.and_true, Bool.not_eq_true] at hc
        exact hc
    · rcases List.mem_append.1 hx with hx | hx
      · exact i2 h x hx
      · simp at hx; subst hx
        rw [h] at hc
        simp only [Bool.not_false, Bool.true_or, Bool.true_and, Bool.not_eq_true] at hc
        exact hc
theorem lex_irr : ∀ l : List Int, lexL l l = false
  | [] => rfl
  | x :: l => by unfold lexL; simp; exact lex_irr l
theorem before_irr (l : List Int) : beforeL l l = false := by unfold beforeL; simp; exact lex_irr l
theorem pick_first {f : List Int → Bool} {L M : List (List Int)} (h1 : ∀ x ∈ L, x ∈ M) (h2 : ∀ x ∈ M, x ∈ L) (hs : M.Pairwise fun a b => beforeL a b = true) : (pickL f L).1 = (M.find? f).getD [] := by
  obtain ⟨p1, p2⟩ := pick_spec f before_irr L
  cases hr : (pickL f L).2 with
  | false =>
    have := p2 hr
    have hn : M.find? f = none := List.find?_eq_none.2 fun x hx => by rw [this x (h2 x hx)]; simp
    rw [hn]
    have key : ∀ L : List (List Int), (pickL f L).2 = false → (pickL f L).1 = [] := rev_ind (fun _ => rfl) fun L l ih => by
      rw [pickL_snoc]
      unfold pickStep
      split
      · intro h; cases h
      · exact ih
    exact key L hr
  | true =>
    obtain ⟨q1, q2, q3⟩ := p1 hr
    cases hf : M.find? f with
    | none => have := List.find?_eq_none.1 hf _ (h1 _ q1); rw [q2] at this; simp at this
    | some x =>
      obtain ⟨hx, m1, m2, rfl, has⟩ := List.find?_eq_some_iff_append.1 hf
      have hm := h1 _ q1
      rcases List.mem_append.1 hm with hm | hm
      · have := has _ hm; rw [q2] at this; simp at this
      · rcases List.mem_cons.1 hm with hm | hm
        · rw [hm]; rfl
        · have hp := (List.pairwise_cons.1 (List.pairwise_append.1 hs).2.1).1 _ hm
          rw [q3 x (h2 x (by simp)) hx] at hp
          cases hp
set_option maxRecDepth 100000 in
theorem sets_lists (n : Nat) (h0 : 0 < n) (h5 : n ≤ 5) : (∀ x ∈ setsL n, x ∈ listsL (ints n) n) ∧ (∀ x ∈ listsL (ints n) n, x ∈ setsL n) ∧ (listsL (ints n) n).Pairwise fun a b => beforeL a b = true := by
  obtain rfl | rfl | rfl | rfl | rfl : n = 1 ∨ n = 2 ∨ n = 3 ∨ n = 4 ∨ n = 5 := by omega
  all_goals decide +kernel
theorem combos_mem : ∀ {n : Nat} {all x : List Int}, x ∈ combos n all → ∀ i ∈ x, i ∈ all
  | 0, _, x, h, i, hi => by simp [combos] at h; subst h; cases hi
  | n + 1, [], x, h, i, hi => by simp [combos] at h
  | n + 1, y :: r, x, h, i, hi => by
    unfold combos at h
    rcases List.mem_append.1 h with h | h
    · obtain ⟨u, hu, rfl⟩ := List.mem_map.1 h
      rcases List.mem_cons.1 hi with rfl | hi
      · exact List.mem_cons_self ..
      · exact List.mem_cons_of_mem _ (combos_mem hu i hi)
    · exact List.mem_cons_of_mem _ (combos_mem h i hi)
theorem combos_len : ∀ {n : Nat} {all x : List Int}, x ∈ combos n all → x.length = n
  | 0, _, x, h => by simp [combos] at h; subst h; rfl
  | n + 1, [], x, h => by simp [combos] at h
  | n + 1, y :: r, x, h => by
    unfold combos at h
    rcases List.mem_append.1 h with h | h
    · obtain ⟨u, hu, rfl⟩ := List.mem_map.1 h
      simp [combos_len hu]
    · exact combos_len h
theorem lists_mem {all x : List Int} {most : Nat} (h : x ∈ listsL all most) : (∀ i ∈ x, i ∈ all) ∧ x.length ≤ most ∧ x.length ≤ all.length := by
  unfold listsL at h
  obtain ⟨n, hn, hx⟩ := List.mem_flatMap.1 h
  have := combos_len hx
  simp at hn
  exact ⟨combos_mem hx, by omega, by omega⟩
theorem ints_mem {n : Nat} {i : Int} (h : i ∈ ints n) : 0 ≤ i ∧ i < (n : Int) := by
  unfold ints at h
  simp only [List.mem_map, List.mem_range] at h
  obtain ⟨j, hj, rfl⟩ := h
  omega
theorem find_congr {α : Type} {f g : α → Bool} : ∀ {L : List α}, (∀ x ∈ L, f x = g x) → L.find? f = L.find? g
  | [], _ => rfl
  | x :: L, h => by
    rw [List.find?_cons, List.find?_cons, h x (List.mem_cons_self ..), find_congr fun y hy => h y (List.mem_cons_of_mem _ hy)]
/-- **Decide: the two answers are one.** -/
theorem decide_eq {sp : List Span} (h5 : sp.length ≤ 5) (h0 : 0 < sp.length) (hb : ∀ x ∈ sp, 1 ≤ x.lo ∧ x.lo ≤ x.hi ∧ x.hi ≤ 9) :
    (pickL (decR sp) (setsL sp.length)).1 = ((listsL (ints sp.length) sp.length).find? fun l => consB l (truthsL (sp.zip [0, 0, 0, 0, 0]))).getD [] := by
  obtain ⟨h1, h2, h3⟩ := sets_lists sp.length h0 h5
  rw [pick_first h1 h2 h3]
  congr 1
  refine find_congr fun l hl => ?_
  exact decR_eq l sp h5 h0 hb fun i hi => ints_mem ((lists_mem hl).1 i hi)
end Go.Proofs.YtdlipbobfgdleaaDoor
