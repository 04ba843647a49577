/- The reference's kinds: a recursion that notes each kind in an array. -/
import Derived.Test.YtcoiahjehlplfaaDoorRKind
import Derived.Test.YtcoiahjehlplfaaDoorKinds
namespace Go.Proofs.YtcoiahjehlplfaaDoor
open Go.RowKit Go.Shelf Go.Lib
set_option maxRecDepth 100000
set_option linter.unusedSimpArgs false

abbrev flagsV (s : S4) : Array Value := #[.bool false, .bool s.a, .bool s.b, .bool s.c, .bool s.d]
def rk (s : S4) (ls : List (List Int)) : S4 := ls.foldl (fun s l => s.add (kindR l)) s
theorem rk_append (s : S4) (a b : List (List Int)) : rk s (a ++ b) = rk (rk s a) b := by unfold rk; rw [List.foldl_append]
theorem rk_all : ∀ ls : List (List Int), rk S4.all ls = S4.all
  | [] => rfl
  | l :: ls => by show rk (S4.all.add (kindR l)) ls = _; rw [S4.add_all]; exact rk_all ls
theorem kindR_bd (l : List Int) : kindR l = 1 ∨ kindR l = 2 ∨ kindR l = 3 ∨ kindR l = 4 := by
  unfold kindR
  repeat' split
  all_goals simp
theorem Sl.grown {α : Type} {enc : α → List Value} {sz ob : Nat} {W W' : World} {A : Option Addr} {n c : Nat} {l : List α} (h : Sl enc sz W (.slice A n c) l) (hg : W.grownBy W' (some ob)) (hA : ∀ b o, A = some ⟨b, o, none⟩ → b ≠ ob) : Sl enc sz W' (.slice A n c) l := by
  obtain ⟨a', c', hv, hl, hc, hcell⟩ := h
  injection hv with e1 e2 e3
  subst e1 e2 e3
  refine ⟨_, _, rfl, hl, hc, fun h0 => ?_⟩
  obtain ⟨b, off, hA', hb, hcell⟩ := hcell h0
  have hne := hA _ _ hA'
  exact ⟨b, off, hA', Nat.lt_of_lt_of_le hb hg.size, fun i x hi j u hu => (World.cell?_of_block (a := ⟨b, _, none⟩) (hg.block b hb (by intro e; injection e with e; exact hne e))).trans (hcell i x hi j u hu)⟩
theorem grown_trans {a b c : World} {r : Nat} (h : a.grownBy b (some r)) (k : b.grownBy c (some r)) : a.grownBy c (some r) :=
  ⟨k.os.trans h.os, k.tape.trans h.tape, k.output.trans h.output, Nat.le_trans h.size k.size, fun i hi hn => (k.block i (Nat.lt_of_lt_of_le hi h.size) hn).trans (h.block i hi hn)⟩

set_option maxHeartbeats 2000000 in
theorem rkinds_leaf (sv : Value) (sp : List Span) (bb off cs ob : Nat) (hsv : sv = .slice (some ⟨bb, off, none⟩) sp.length cs) (g : List Int) (A : Option Addr) (c : Nat) (s : S4) (W : World) (hg : g.length = sp.length) (h0 : 0 < g.length) (hlen : g.length ≤ 1000)
    (hs : SlI W (.slice A g.length c) g) (hb : ∀ n ∈ g, 1 ≤ n ∧ n ≤ 9) (hB : Blk W ob 108 (flagsV s)) :
    Calls Tryd.prog 107 #[sv, .slice A g.length c, .pointer (some ⟨ob, 0, none⟩)] W fun e W' => (∃ v, e = .returned v) ∧ W.grownBy W' (some ob) ∧ Blk W' ob 108 (flagsV (s.add (kindR g))) := by
  subst hsv
  have HS := Lib.hid hs; have HB := Lib.hid hB; have H0 := Lib.hid h0; have HL := Lib.hid hlen; have HBD := Lib.hid hb
  clear hs hB hb
  generalize hgl : g.length = n at *
  have hn' : (n : Int) = (sp.length : Int) := by omega
  have HGL := Lib.hid hgl
  clear h0 hlen hgl hg
  have hK := kindR_bd g
  generalize hkg : kindR g = k at hK ⊢
  have HK := Lib.hid hkg
  clear hkg
  go_enter Tryd.func107, Tryd.ntmps107
  rcases hK with rfl | rfl | rfl | rfl
  all_goals go_wp2
  all_goals
    refine wp_region_tame_cut (fun V => Ext W V) (fun W W' => Ext W W') (by kernel_rfl) 64 rfl _ rfl (by decide +kernel) (by decide +kernel) (by decide +kernel) rfl (Ext.refl _).drew ?_
    simp only [List.dropLast]
    repeat (apply tame_q rfl; (intro ρ W hC hr hD; (obtain ⟨hrc, hrg, hrf, hrs⟩ := hr); (simp [go_sem] at hD); go_simp; first | exact ⟨⟨hC, Ext.refl _⟩, rfl⟩ | exact ⟨⟨hC, RS.refl _⟩, rfl⟩ | exact rfl); simp only [List.nil_append, List.cons_append])
    apply tame_q (v0 := .int .i64 (kindR g)) rfl
    · intro ρ V hC hr hD
      obtain ⟨hrc, hrg, hrf, hrs⟩ := hr
      simp [go_sem] at hD
      go_simp
      refine (kindR_any g _ _ (HS.out.ext hC) (HGL.out ▸ H0.out) (HGL.out ▸ HL.out) HBD.out).mono ?_
      rintro e w' ⟨rfl, hE⟩
      exact ⟨_, rfl, ⟨hC.trans hE, hE⟩, rfl⟩
    simp only [List.nil_append, List.cons_append, HK.out]
    repeat (apply tame_q rfl; (intro ρ W hC hr hD; (obtain ⟨hrc, hrg, hrf, hrs⟩ := hr); (simp [go_sem] at hD); go_simp; first | exact ⟨⟨hC, Ext.refl _⟩, rfl⟩ | exact ⟨⟨hC, RS.refl _⟩, rfl⟩ | exact rfl); simp only [List.nil_append, List.cons_append])
    refine tame_end 64 rfl rfl (fun ρ V hC hr hF => ?_)
    obtain ⟨hrc, hrg, hrf, hrs⟩ := hr
    simp [go_sem] at hF
    apply frame_to
    · go_simp
      exact rfl
    clear hF hrs hrc hrg hrf
    have HBV := Lib.hid (HB.out.ext hC)
    have b0 := HBV.out.cell 0
    have b1 := HBV.out.cell 1
    have b2 := HBV.out.cell 2
    have b3 := HBV.out.cell 3
    have b4 := HBV.out.cell 4
    have bf := HBV.out.frozen
    have bl := HBV.out.lt
    simp at b0 b1 b2 b3 b4
    have HCV := Lib.hid hC; clear hC
    go_wp2
    refine bodyPost_ret (results_none rfl _ _ _) rfl ?_
  · exact ⟨⟨_, rfl⟩, grown_set (grown_ext (World.grownBy.refl _ _) HCV.out) (.inl rfl) _, by have := HBV.out.set_ 1 (.bool true); simpa [S4.add] using this⟩
  · exact ⟨⟨_, rfl⟩, grown_set (grown_ext (World.grownBy.refl _ _) HCV.out) (.inl rfl) _, by have := HBV.out.set_ 2 (.bool true); simpa [S4.add] using this⟩
  · exact ⟨⟨_, rfl⟩, grown_set (grown_ext (World.grownBy.refl _ _) HCV.out) (.inl rfl) _, by have := HBV.out.set_ 3 (.bool true); simpa [S4.add] using this⟩
  · exact ⟨⟨_, rfl⟩, grown_set (grown_ext (World.grownBy.refl _ _) HCV.out) (.inl rfl) _, by have := HBV.out.set_ 4 (.bool true); simpa [S4.add] using this⟩

def zOf (sp : List Span) : List (Span × Int) := sp.map fun x => (x, 0)
theorem zOf_drop {sp : List Span} {n : Nat} {x : Span} (h : sp[n]? = some x) : (zOf sp).drop n = (x, 0) :: (zOf sp).drop (n + 1) := by
  obtain ⟨hl, he⟩ := List.getElem?_eq_some_iff.1 h
  have hl' : n < (zOf sp).length := by simpa [zOf] using hl
  rw [← List.getElem_cons_drop hl']
  simp [zOf, he]

theorem wpList_copy {ops : Array Oper} {rest : List Oper} {o : Oper} {a : Act} {Q : Exit → Act → World → Prop} {W : World} (hgd : o.guard = none) (s x : Operand)
    (ho : o.op = .call { callee := .builtin .append, args := #[s, x], argTypes := #[56, 56] }) {base g : Nat} (hs : a.eval s = .slice (some ⟨g, 0, none⟩) 0 0) {v : Value} (hx : a.eval x = v)
    (hB : Blk W g 3 #[]) (hg : base ≤ g) (hW : base ≤ W.heap.size) {l : List Int} (hl : SlI W v l) (hlen : l.length ≤ 1000)
    (h : ∀ v' W', Own encI 3 1 W' base v' l → Ext W W' → wpList Tryd.prog ops Q rest (a.put o.dst v') W') : wpList Tryd.prog ops Q (o :: rest) a W := by
  obtain ⟨v', W', hr, h1, h2⟩ := run_copy (t := 56) (ty := o.type) (enc := encI) (sz := 1) Tryd.underlying56 info3x rfl (by decide) (by decide) (fun _ => rfl) hB hg hW hl hlen
  refine wpList_plain hgd fun K hK => ?_
  unfold Oper.wp execOp
  simp only [ho, resolve, invoke, builtin, Sem.run_bind, Sem.run_pure, Result.andThen_ok, List.map_toArray, List.map_cons, List.map_nil, hs, hx, hr]
  exact hK _ _ (h v' W' h1 h2)

set_option maxHeartbeats 4000000 in
theorem rkinds_any {sp : List Span} {bb off cs ob : Nat} (hsp : sp.length ≤ 1000) (hbd : ∀ x ∈ sp, 1 ≤ x.lo ∧ x.lo ≤ 1000 ∧ x.hi ≤ 9) (hbo : bb ≠ ob) :
    ∀ (k : Nat) (g : List Int) (A : Option Addr) (c : Nat) (s : S4) (W₀ : World), g.length + k = sp.length → 0 < sp.length → SlI W₀ (.slice A g.length c) g → (∀ b o, A = some ⟨b, o, none⟩ → b ≠ ob) → SlS W₀ (.slice (some ⟨bb, off, none⟩) sp.length cs) sp → (∀ n ∈ g, 1 ≤ n ∧ n ≤ 9) → Blk W₀ ob 108 (flagsV s) →
      Calls Tryd.prog 107 #[.slice (some ⟨bb, off, none⟩) sp.length cs, .slice A g.length c, .pointer (some ⟨ob, 0, none⟩)] W₀ fun e W' => (∃ v, e = .returned v) ∧ W₀.grownBy W' (some ob) ∧ Blk W' ob 108 (flagsV (rk s (exts g ((zOf sp).drop g.length)))) := by
  intro k
  induction k with
  | zero =>
    intro g A c s W₀ hg h0 hs hA hS hb hB
    have hd : (zOf sp).drop g.length = [] := List.drop_eq_nil_of_le (by simp [zOf]; omega)
    have he : exts g ((zOf sp).drop g.length) = [g] := by rw [hd]; simp [exts, truthsL]
    rw [he]
    exact rkinds_leaf _ sp bb off cs ob rfl g A c s W₀ (by omega) (by omega) (by omega) hs hb hB
  | succ k ih =>
    intro g A c s W₀ hg h0 hs hA hS hb hB
    have hat : g.length < sp.length := by omega
    obtain ⟨x, hx⟩ : ∃ x, sp[g.length]? = some x := ⟨_, List.getElem?_eq_getElem hat⟩
    have hdr := zOf_drop hx
    have hbx := hbd x (List.mem_of_getElem? hx)
    generalize hr : (zOf sp).drop (g.length + 1) = r at hdr
    rw [hdr]
    have hex : exts g ((x, 0) :: r) = doneTo g (x, 0) r (x.hi - x.lo + 1).toNat := exts_cons g (x, 0) r
    rw [hex]
    generalize hN : (x.hi - x.lo + 1).toNat = N
    obtain ⟨A', c', hv0, hlc, hcm, _⟩ := id hs
    injection hv0 with e1 e2 e3
    subst e1 e3
    generalize hgl : g.length = n at *
    have HS := Lib.hid hs; have HB := Lib.hid hB; have HSP := Lib.hid hS; have IH := Lib.hid ih; have HA := Lib.hid hA; have HBD := Lib.hid hb; have H00 := Lib.hid h0
    have HR := Lib.hid hr; have HGL := Lib.hid hgl
    obtain ⟨bb', off', x', e1, hx', hbl, hxc⟩ := hS.at_ hat
    injection e1 with e1
    injection e1 with e1 e2
    subst e1 e2
    obtain rfl : x' = x := by rw [hx] at hx'; injection hx' with h; exact h.symm
    have hatz : (n : Int) < (sp.length : Int) := by omega
    have hne : ¬ ((n : Int) = (sp.length : Int)) := by omega
    have hnz : (0 : Int) ≤ (n : Int) := by omega
    have hn1000 : n ≤ 1000 := by omega
    have HXC := Lib.hid hxc; have HXX := Lib.hid hx'
    clear hs hB hS ih hA hb hr hgl hdr hex hbd hxc hx' h0
    obtain ⟨c0, c1⟩ := SlS.cells HXC.out (Ext.refl _)
    have b0 := HB.out.cell 0
    have b1 := HB.out.cell 1
    have b2 := HB.out.cell 2
    have b3 := HB.out.cell 3
    have b4 := HB.out.cell 4
    have bl := HB.out.lt
    simp at b0 b1 b2 b3 b4
    go_enter Tryd.func107, Tryd.ntmps107
    by_cases hall : s = S4.all
    · subst hall
      simp only [S4.all] at b1 b2 b3 b4
      go_wp2
      refine bodyPost_ret (results_none rfl _ _ _) rfl ?_
      exact ⟨⟨_, rfl⟩, World.grownBy.refl _ _, by rw [rk_all]; exact HB.out⟩
    have HALL := Lib.hid hall; clear hall
    have hsplit : s.a = false ∨ (s.a = true ∧ s.b = false) ∨ (s.a = true ∧ s.b = true ∧ s.c = false) ∨ (s.a = true ∧ s.b = true ∧ s.c = true ∧ s.d = false) := by
      obtain ⟨x, y, z, u⟩ := s
      have := HALL.out
      cases x <;> cases y <;> cases z <;> cases u <;> simp_all [S4.all]
    rcases hsplit with h1 | ⟨h1, h2⟩ | ⟨h1, h2, h3⟩ | ⟨h1, h2, h3, h4⟩
    all_goals rw [h1] at b1
    all_goals (try rw [h2] at b2)
    all_goals (try rw [h3] at b3)
    all_goals (try rw [h4] at b4)
    all_goals (try clear h2)
    all_goals (try clear h3)
    all_goals (try clear h4)
    all_goals clear h1 HALL
    all_goals
      go_wp2
      clear b0 b1 b2 b3 b4 bl c0 c1
      go_loopg [6] N (fun gg s6 wr => ∃ q : Nat, q ≤ N ∧ N - q ≤ gg ∧ s6 = .int .i64 (x'.lo + (q : Int)) ∧ Aside (W₀.grownBy wr (some ob)) ∧ Aside (Blk wr ob 108 (flagsV (rk s (doneTo g (x', 0) r q)))))
      case atStart => exact ⟨0, by omega, by omega, by simp, World.grownBy.refl _ _, by show Blk _ _ _ _; simpa [doneTo, gTo, rk] using HB.out⟩
      case round =>
        obtain ⟨q, hq, hgg, rfl, HGR, HBL⟩ := hrel
        have HSW := Lib.hid (HSP.out.grown HGR.out (fun b o e => by injection e with e; injection e with e1 e2; rw [← e1]; exact hbo))
        have hxw : SlS wr (.slice (some ⟨bb, off, none⟩) sp.length cs) sp := HSW.out
        obtain ⟨bb', off', x2, e1, hx2, hbl2, hxc2⟩ := hxw.at_ hat
        have hnx : x2 = x' := by
          have := HXX.out
          rw [hx2] at this; injection this
        injection e1 with e1
        injection e1 with e1 e2
        subst e1 e2 hnx
        have c01 := SlS.cells hxc2 (Ext.refl _)
        obtain ⟨c0, c1⟩ := c01
        clear hxw hxc2
        by_cases hqN : q < N
        · have hle : x2.lo + (q : Int) ≤ x2.hi := by omega
          clear hbl2 hx2
          go_wp2_with (at_builtin; refine wpList_copy rfl (.tmp 56) (.tmp 57) rfl (base := wr.heap.size) (g := wr.heap.size) rfl rfl (Blk.new _ _ _) (Nat.le_refl _) (by simp) ((HS.out.grown HGR.out HA.out).ext (Ext.al _ _)) (by have := HGL.out; omega) ?_)
          intro v1 w1 hown hext
          have HO1 := Lib.hid hown; have HE1 := Lib.hid (show Ext wr w1 from (Ext.al _ _).trans hext); clear hown hext
          go_wp2_with (at_builtin; refine wpList_app encI 56 3 1 _ 8 Tryd.underlying56 info3x rfl (by decide) (by decide) (fun _ => rfl) encI_one rfl (.tmp 58) (.tmp 60) rfl wr.heap.size _ g rfl (HO1.out.alloc _) w1.heap.size 1 (x2.lo + (q : Int)) rfl (cells1 (by simp [go_sem])) (by have := HGL.out; omega) (by have := HE1.out.size; simp; omega) ?_)
          intro g' cap w6 hown2 hg2 hbel _
          have HE6 := Lib.hid (show Ext wr w6 from Below.trans (HE1.out.alloc _) hbel)
          have e1 : (g ++ [x2.lo + (q : Int)]).length = n + 1 := by simp [HGL.out]
          have H := IH.out (g ++ [x2.lo + (q : Int)]) (some ⟨g', 0, none⟩) cap (rk s (doneTo g (x2, 0) r q)) w6 (by rw [e1]; omega) H00.out (by rw [e1]; have := (show SlI w6 _ _ from Own.sl (enc := encI) (fun _ => rfl) hown2); rw [HGL.out] at this; exact this)
            (fun b o e => by injection e with e; injection e with e2 e3; rw [← e2]; have := HBL.out.lt; omega) (HSW.out.ext HE6.out)
            (fun m hm => by rcases List.mem_append.1 hm with hm | hm
                            · exact HBD.out m hm
                            · simp at hm; omega) (HBL.out.ext HE6.out)
          rw [e1, HR.out] at H
          rw [HGL.out]
          have HD1 := Lib.hid (show doneTo g (x2, 0) r (q + 1) = doneTo g (x2, 0) r q ++ exts (g ++ [x2.lo + (q : Int)]) r by rw [doneTo_succ]; simp [])
          clear e1 hown2 hg2 hbel
          go_wp2_with (go_at_call 107; refine H.mono ?_; clear H; rintro e w' ⟨⟨v, rfl⟩, g1, g2⟩)
          rw [← rk_append, ← HD1.out] at g2
          have HG2 := Lib.hid g2
          have HG1 := Lib.hid (grown_trans (grown_ext HGR.out HE6.out) g1)
          clear g1 g2
          go_wp2
          go_roundg (N - (q + 1))
          case measure => omega
          case rel => exact ⟨q + 1, by omega, by omega, by simp; omega, HG1.out, HG2.out⟩
        · have hqe : q = N := by omega
          subst hqe
          have hgt : x2.hi < x2.lo + (q : Int) := by omega
          go_wp2
          go_end0
          exact ⟨⟨_, rfl⟩, HGR.out, HBL.out⟩
end Go.Proofs.YtcoiahjehlplfaaDoor
