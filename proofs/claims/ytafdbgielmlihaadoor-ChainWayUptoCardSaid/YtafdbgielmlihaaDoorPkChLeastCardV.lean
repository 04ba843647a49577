/- The program's Way, part two: the region that puts a way behind the list. -/
import Derived.Test.YtafdbgielmlihaaDoorPkChLeastCardU
import Derived.Maps.AppendAt
namespace Go.Proofs.YtafdbgielmlihaaDoor
open Go.RowKit Go.Shelf Go.Lib
set_option maxRecDepth 100000
set_option linter.unusedSimpArgs false

def subD : List Nat → Code → Code
  | 0 :: p, .seq x _ => subD p x
  | 1 :: p, .seq _ y => subD p y
  | 2 :: p, .block _ c => subD p c
  | 3 :: p, .loop c => subD p c
  | 5 :: p, .cond _ x _ => subD p x
  | _, c => c
theorem run_appI {w : World} {base : Nat} {v : Value} {l : List Int} {b c : Nat} {y : Int} (ty : TypeId) (hown : Own encI 3 1 w base v l) (hc : w.cell? ⟨b, 0, none⟩ = some (.int .i64 y)) (hlen : l.length < 100000000000) (hbase : base ≤ w.heap.size) :
    ∃ g k d w', (Builtin.append_ #[22, 22] ty #[v, .slice (some ⟨b, 0, none⟩) 1 c]).run Tryd.prog w = .ok (.slice (some ⟨g, 0, none⟩) k d) w' ∧ Own encI 3 1 w' base (.slice (some ⟨g, 0, none⟩) k d) (l ++ [y]) ∧ Below base w w' := by
  obtain ⟨i0, hi, hz0, hz1, hz2⟩ := info_parts info3x
  have hb : (l.length + 1) * 8 ≤ 100000000000 * 1000 := Nat.mul_le_mul (by omega) (by omega)
  obtain ⟨v', w', hr, ho, hg, -⟩ := run_append_own (P := Tryd.prog) w base 22 ty 3 i0 (.int .i64 0) 1 8 Tryd.underlying22 hi hz0 hz1 hz2 rfl (by decide) v l.length (l.flatMap encI) hown ⟨b, 0, none⟩ 1 c (encI y) rfl
    (fun j u hj => by rw [Addr.add_lit, Nat.zero_add]; exact cells1 hc j u hj) (encI_one y) (by unfold maxLen; omega) (by omega) hbase
  obtain ⟨g, cap, rfl, -⟩ := own_succ ho
  refine ⟨g, _, cap, w', hr, ?_, (Below.refl base w).grown hg hbase (fun k hk => (World.ownsRow.lt hown k hk).1)⟩
  unfold Own
  rw [List.length_append, List.flatMap_append]
  simpa using ho
theorem wpList_appAt {α : Type} (enc : α → List Value) (t e : TypeId) (sz : Nat) (z : Value) (bytes : Nat) (ht : Tryd.prog.underlying t = some (.slice e))
    (hinfo : (Tryd.prog.info? e).map (fun i => (i.zero, i.size, i.bytes)) = some (some z, sz, bytes)) (hzs : z.cells.size = sz) (hsz : 0 < sz) (hbytes : bytes ≤ 1000)
    (henc : ∀ x, (enc x).length = sz) (h1 : ∀ x, ∀ u ∈ enc x, u.oneCell' = true)
    {ops : Array Oper} {rest : List Oper} {o : Oper} {a : Act} {Q : Exit → Act → World → Prop} {w : World} (hgd : o.guard = none) (s x : Operand)
    (ho : o.op = .call { callee := .builtin .append, args := #[s, x], argTypes := #[t, t] }) (base : Nat) (v : Value) (l : List α) (hs : a.eval s = v) (hown : Own enc e sz w base v l)
    (b c : Nat) (y : α) (hx : a.eval x = .slice (some ⟨b, 0, none⟩) 1 c) (hc : ∀ j u, (enc y)[j]? = some u → w.cell? ⟨b, j, none⟩ = some u) (hlen : l.length < 100000000000) (hbase : base ≤ w.heap.size)
    (h : ∀ g cap w', Own enc e sz w' base (.slice (some ⟨g, 0, none⟩) (l.length + 1) cap) (l ++ [y]) → base ≤ g → w.grownBy w' v.ownBlock → (v.ownBlock = some g ∨ g = w.heap.size) → wpList Tryd.prog ops Q rest (a.put o.dst (.slice (some ⟨g, 0, none⟩) (l.length + 1) cap)) w') :
    wpList Tryd.prog ops Q (o :: rest) a w := by
  obtain ⟨i0, hi, hz0, hz1, hz2⟩ := info_parts hinfo
  refine wpList_append_own_at w hgd s x t ho base e i0 z sz bytes ht hi hz0 hz1 hz2 hzs hsz v l.length (l.flatMap enc) hs hown ⟨b, 0, none⟩ 1 c (enc y) hx (by rw [henc]; omega) ?_ (h1 y) ?_ ?_ hbase ?_
  · intro j u hj
    rw [Addr.add_lit, Nat.zero_add]
    exact hc j u hj
  · unfold maxLen; omega
  · have : (l.length + 1) * bytes ≤ 100000000000 * 1000 := Nat.mul_le_mul (by omega) hbytes
    omega
  · intro v' w' hown' hgrow _ hat
    obtain ⟨g, cap, hv, hg⟩ := own_succ hown'
    subst hv
    refine h g cap w' ?_ hg hgrow ?_
    · unfold Own; rw [List.length_append, List.flatMap_append]; simpa using hown'
    · rcases hat with hat | hat
      · exact .inl (by rw [← hat]; rfl)
      · exact .inr (by simpa [Value.ownBlock] using hat)
set_option maxHeartbeats 4000000 in
theorem wayReg_wp {w : World} {B gw gs : Nat} {at_ x y b3 b4 sl : Int} {vs v2 v3 v9 v10 v42 v43 v44 v55 v56 v57 : Value} {nums : List Int} {Ao : Option Addr} {no co : Nat} {N : List Wy} {a0 : Act} {Q : Exit → Act → World → Prop}
    (hF : Fr 92 [(2, v2), (3, v3), (9, v9), (10, v10), (11, .slice Ao no co), (13, .pointer (some ⟨gw, 0, none⟩)), (15, .pointer (some ⟨gs, 0, none⟩)), (42, v42), (43, v43), (44, v44), (55, v55), (56, v56), (57, v57)] [] a0)
    (hB1 : Blk w gw 145 #[.int .i64 at_, vs]) (hvs : Own encI 3 1 w 0 vs nums) (hB2 : Blk w gs 68 #[.int .i64 x, .int .i64 sl, .int .i64 y, .int .i64 b3, .int .i64 b4]) (hN : WLs w B (.slice Ao no co) N) (hBw : B ≤ w.heap.size) (hnl : nums.length ≤ 900) (hNl : N.length ≤ 900)
    (hQ : ∀ A' W' A1 n1 c1, Fr 92 [(2, v2), (3, v3), (9, v9), (10, v10), (11, .slice A1 n1 c1), (13, .pointer (some ⟨gw, 0, none⟩)), (15, .pointer (some ⟨gs, 0, none⟩)), (42, v42), (43, v43), (44, v44), (55, v55), (56, v56), (57, v57)] [] A' →
      w.grownBy W' (Value.slice Ao no co).ownBlock → ((Value.slice A1 n1 c1).ownBlock = (Value.slice Ao no co).ownBlock ∨ ∃ q, (Value.slice A1 n1 c1).ownBlock = some q ∧ w.heap.size ≤ q) → WLs W' B (.slice A1 n1 c1) (N ++ [(y, nums ++ [x])]) → Q .normal A' W') :
    (subD [1, 1, 1, 1, 1, 0, 2, 3, 1, 2, 1, 0, 1, 2, 3, 1, 1, 0, 2, 1, 1, 1, 2, 3, 1, 1, 0, 2, 1, 1, 5, 1] (Tryd.f53.body.getD .skip)).wp Tryd.prog Q a0 w := by
  have HB1 := Lib.hid hB1; have HVS := Lib.hid hvs; have HB2 := Lib.hid hB2; have HN := Lib.hid hN; have HQ := Lib.hid hQ
  clear hB1 hvs hB2 hN hQ
  delta Tryd.f53
  simp only [subD, Option.getD_some]
  obtain ⟨ρ, rfl, hρ⟩ := hF.open_
  simp only [List.forall_mem_cons] at hρ
  obtain ⟨r2, r3, r9, r10, r11, r13, r15, r42, r43, r44, r55, r56, r57, -⟩ := hρ
  simp only [lst, Nat.reduceAdd, r2, r3, r9, r10, r11, r13, r15, r42, r43, r44, r55, r56, r57]
  clear r2 r3 r9 r10 r11 r13 r15 r42 r43 r44 r55 r56 r57 hF
  have m1 := fun W (h : Ext w W) => (HB1.out.ext h).c2
  have m2 := fun W (h : Ext w W) => (HB2.out.ext h).c5
  refine wp_region_tame_cutkD (fun W => Ext w W) (fun _ _ => True) (LvI w.heap.size nums x y) (by kernel_rfl) 92 rfl 12 (by decide +kernel) (by decide +kernel) (by decide +kernel) (Ext.refl _).drew LvI.start ?_
  simp only [List.take, List.drop]
  apply tameD_q rfl rfl (fun L e W v h => h.keep (i := 0) (d := 76) (by decide) v)
  · intro ρ W hC hr hD
    obtain ⟨hrc, hrg, hrf, hrs⟩ := hr
    simp [go_sem] at hD
    go_simp
    exact ⟨⟨hC, trivial⟩, rfl⟩
  simp only [List.nil_append, List.cons_append]
  apply tameD_q rfl rfl (fun L e W v h => h.keep (i := 1) (d := 77) (by decide) v)
  · intro ρ W hC hr hD
    obtain ⟨hrc, hrg, hrf, hrs⟩ := hr
    simp [go_sem] at hD
    go_simp
    exact ⟨⟨hC, trivial⟩, rfl⟩
  simp only [List.nil_append, List.cons_append]
  apply tameD_q rfl rfl (fun L e W v h => h.keep (i := 2) (d := 78) (by decide) v)
  · intro ρ W hC hr hD
    obtain ⟨hrc, hrg, hrf, hrs⟩ := hr
    simp [go_sem] at hD
    go_simp
    exact ⟨⟨hC, trivial⟩, rfl⟩
  simp only [List.nil_append, List.cons_append]
  apply tameD_q rfl rfl (fun L e W v h => h.keep (i := 3) (d := 79) (by decide) v)
  · intro ρ W hC hr hD
    obtain ⟨hrc, hrg, hrf, hrs⟩ := hr
    simp [go_sem] at hD
    go_simp
    exact ⟨⟨hC, trivial⟩, rfl⟩
  simp only [List.nil_append, List.cons_append]
  apply tameD_q rfl rfl (fun L e W v h => h.keep (i := 4) (d := 80) (by decide) v)
  · intro ρ W hC hr hD
    obtain ⟨hrc, hrg, hrf, hrs⟩ := hr
    simp [go_sem] at hD
    go_simp
    exact ⟨⟨hC, trivial⟩, rfl⟩
  simp only [List.nil_append, List.cons_append]
  apply tameD_m rfl rfl (fun _ _ => True) (fun _ _ _ _ _ h => h)
  · intro ρ L W hC hr hI hL hLs hD
    obtain ⟨hrc, hrg, hrf, hrs⟩ := hr
    simp [go_sem] at hD
    go_simp
    refine (cloneI_any _ nums _ ((HVS.out.ext hC).sl (fun _ => rfl)) (by omega)).mono ?_
    rintro e w' ⟨⟨v', rfl, ho⟩, hE⟩
    exact ⟨_, rfl, ⟨hC.trans hE, trivial⟩, hI.p5 hE (ho.mono hC.size)⟩
  simp only [List.nil_append, List.cons_append]
  apply tameD_q rfl rfl (fun L e W v h => h.keep (i := 6) (d := 82) (by decide) v)
  · intro ρ W hC hr hD
    obtain ⟨hrc, hrg, hrf, hrs⟩ := hr
    simp [go_sem] at hD
    go_simp
    exact ⟨⟨hC, trivial⟩, rfl⟩
  simp only [List.nil_append, List.cons_append]
  apply tameD_q rfl rfl (fun L e W v h => h.keep (i := 7) (d := 83) (by decide) v)
  · intro ρ W hC hr hD
    obtain ⟨hrc, hrg, hrf, hrs⟩ := hr
    simp [go_sem] at hD
    go_simp
    exact ⟨⟨hC, trivial⟩, rfl⟩
  simp only [List.nil_append, List.cons_append]
  apply tameD_m rfl rfl (fun _ _ => True) (fun _ _ _ _ _ h => h)
  · intro ρ L W hC hr hI hL hLs hD
    obtain ⟨hrc, hrg, hrf, hrs⟩ := hr
    simp [go_sem] at hD
    go_simp
    exact ⟨⟨hC.alloc _, trivial⟩, hI.p8⟩
  simp only [List.nil_append, List.cons_append]
  apply tameD_m rfl rfl (fun _ _ => True) (fun _ _ _ _ _ h => h)
  · intro ρ L W hC hr hI hL hLs hD
    obtain ⟨hrc, hrg, hrf, hrs⟩ := hr
    clear hD
    have hz := hC.size
    have h5 : L 5 = true := hLs ⟨5, .data⟩ (by simp) rfl
    have h8 : L 8 = true := hLs ⟨8, .data⟩ (by simp) rfl
    obtain ⟨g, e84, hg, hcl⟩ := hI.b hL h8
    obtain ⟨g2, k, d, w', hrun, hown, hbel⟩ := run_appI 22 (hI.a hL h5) hcl (by omega) hz
    have hp := hI.p9 hL hown
    have hC2 : Ext w w' := Below.trans hC hbel

    have e84' : ρ (.tmp 84) = .slice (some ⟨g, 0, none⟩) 1 1 := e84
    unfold opGives opPost
    simp only [execOp, resolve, invoke, builtin, Sem.run_bind, Sem.run_pure, Result.andThen_ok, List.map_toArray, List.map_cons, List.map_nil, e84']
    have hrun' : (Builtin.append_ #[22, 22] 22 #[ρ (.tmp 81), .slice (some ⟨g, 0, none⟩) 1 1]).run Tryd.prog W = .ok (.slice (some ⟨g2, 0, none⟩) k d) w' := hrun
    rw [hrun']
    exact ⟨⟨hC2, trivial⟩, trivial, hp⟩
  simp only [List.nil_append, List.cons_append]
  apply tameD_m rfl rfl (fun _ _ => True) (fun _ _ _ _ _ h => h)
  · intro ρ L W hC hr hI hL hLs hD
    obtain ⟨hrc, hrg, hrf, hrs⟩ := hr
    simp [go_sem] at hD
    have h9 : L 9 = true := hLs ⟨9, .data⟩ (by simp) rfl
    obtain ⟨g, k, d, e85, -⟩ := hI.c h9
    have hp := hI.p10 h9 e85
    have e85' : ρ (.tmp 85) = .slice (some ⟨g, 0, none⟩) k d := e85
    clear hI hLs
    go_simp
    exact ⟨hC, trivial⟩
  simp only [List.nil_append, List.cons_append]
  apply tameD_m rfl rfl (fun _ _ => True) (fun _ _ _ _ _ h => h)
  · intro ρ L W hC hr hI hL hLs hD
    obtain ⟨hrc, hrg, hrf, hrs⟩ := hr
    clear hD
    have h10 : L 10 = true := hLs ⟨10, .data⟩ (by simp) rfl
    have h9 : L 9 = true := by
      cases h : L 9 with
      | true => rfl
      | false => rw [hI.o1 h] at h10; cases h10
    obtain ⟨g, k, d, e85, -⟩ := hI.c h9
    have e86 := hI.d h10
    rw [e85] at e86
    have hp := hI.p11 h10 e85
    have e86' : ρ (.tmp 86) = .agg #[.int .i64 y, .slice (some ⟨g, 0, none⟩) k d] := e86
    clear hI hLs
    go_simp
    exact ⟨hC.alloc _, trivial⟩
  simp only [List.nil_append, List.cons_append]
  refine tameD_end 92 rfl rfl (fun ρ W hC hr hI hF => ?_)
  obtain ⟨hrc, hrg, hrf, hrs⟩ := hr
  simp [go_sem] at hF
  obtain ⟨gb, e87, hrow⟩ := hI.f (by decide)
  obtain ⟨gv, k, d, e85, hov⟩ := hI.c (by decide)
  rw [e85] at hrow
  have e87' : ρ (.tmp 87) = .slice (some ⟨gb, 0, none⟩) 1 1 := e87
  clear hI
  apply frame_to
  · go_simp
    exact rfl
  have HC := Lib.hid hC; have HOV := Lib.hid hov; have HROW := Lib.hid hrow
  clear hC hF hov hrow e85 e87 e87' hrc hrg hrf hrs m1 m2
  obtain ⟨Vs, hVo, hVl, hVe⟩ := HN.out
  have HVO := Lib.hid hVo; have HVE := Lib.hid hVe
  clear hVo hVe
  have hzC := HC.out.size
  go_wp2_with (at_builtin; refine wpList_appAt encWy 146 145 2 _ 32 Tryd.underlying146 info145x rfl (by decide) (by decide) (fun _ => rfl) encWy_1 rfl (.tmp 76) (.tmp 87) rfl B _ Vs rfl (HVO.out.ext HC.out) gb 1 (y, some ⟨gv, 0, none⟩, k, d) rfl (cells2 HROW.out.c2.1 HROW.out.c2.2.1) (by omega) (by omega) ?_)
  intro g9 cap w9 hown hg9 hgr hat
  have hO9 := own_diff HOV.out (HVO.out.ext HC.out) (by decide) hgr
  have hW9 : WLs w9 B (.slice (some ⟨g9, 0, none⟩) (N.length + 1) cap) (N ++ [(y, nums ++ [x])]) := by
    refine ⟨_, hown, by simp [hVl], fun i u e hu he => ?_⟩
    rcases Nat.lt_or_ge i N.length with hi | hi
    · rw [List.getElem?_append_left (by omega)] at hu
      rw [List.getElem?_append_left hi] at he
      obtain ⟨h1, h2⟩ := HVE.out i u e hu he
      exact ⟨h1, own_diff (h2.ext HC.out) (HVO.out.ext HC.out) (by decide) hgr⟩
    · rw [List.getElem?_append_right (by omega)] at hu he
      obtain ⟨j, hj⟩ : ∃ j, i - N.length = j := ⟨_, rfl⟩
      rw [hj] at he
      rw [hVl, hj] at hu
      match j, hu, he with
      | 0, hu, he =>
        simp at hu he
        subst hu; subst he
        exact ⟨rfl, hO9.mono (Nat.zero_le _)⟩
  have hG9 : w.grownBy w9 (Value.slice Ao no co).ownBlock := grown_tr (ext_row HC.out _) hgr
  have hA9 : (Value.slice (some ⟨g9, 0, none⟩) (N.length + 1) cap).ownBlock = (Value.slice Ao no co).ownBlock ∨ ∃ q, (Value.slice (some ⟨g9, 0, none⟩) (N.length + 1) cap).ownBlock = some q ∧ w.heap.size ≤ q := by
    rcases hat with hat | hat
    · exact .inl (by rw [hat]; rfl)
    · exact .inr ⟨g9, rfl, by omega⟩
  have H1 := Lib.hid hG9; have H2 := Lib.hid hW9; have H3 := Lib.hid hA9
  clear hown hgr hO9 hW9 hG9 hA9 hat
  go_wp2
  exact HQ.out _ _ _ _ _ ⟨rfl, rfl, by simp [Act.eval]⟩ H1.out H3.out H2.out
end Go.Proofs.YtafdbgielmlihaaDoor
/- The program's Way. -/
namespace Go.Proofs.YtafdbgielmlihaaDoor
open Go.RowKit Go.Shelf Go.Lib
set_option maxRecDepth 100000
set_option linter.unusedSimpArgs false

theorem WLs.one {W : World} {B g : Nat} {a : Int} (h : Blk W g 145 #[.int .i64 a, .slice none 0 0]) (hb : B ≤ g) : WLs W B (.slice (some ⟨g, 0, none⟩) 1 1) [(a, [])] := by
  refine ⟨[(a, none, 0, 0)], ?_, rfl, fun i u e hu he => ?_⟩
  · exact ⟨rfl, .inr ⟨g, 1, _, rfl, hb, h, Nat.le_refl _, by decide, rfl, rfl⟩⟩
  · match i, hu, he with
    | 0, hu, he =>
      simp at hu he
      subst hu; subst he
      exact ⟨rfl, Own.nil _ _⟩
theorem WLs.diff {W W' : World} {B base : Nat} {v u : Value} {N : List Wy} {l : List Int} (h : WLs W B v N) (k : Own encI 3 1 W base u l) (hg : W.grownBy W' v.ownBlock) : Own encI 3 1 W' base u l := by
  obtain ⟨Vs, h1, -⟩ := h
  exact own_diff k h1 (by decide) hg
theorem WLs.own_ge {W : World} {B : Nat} {v : Value} {N : List Wy} (h : WLs W B v N) {g : Nat} (hg : v.ownBlock = some g) : B ≤ g ∧ g < W.heap.size := by
  obtain ⟨Vs, h1, -⟩ := h
  exact own_rng h1 hg
theorem WLs.neC {W : World} {B q : Nat} {v : Value} {N : List Wy} (h : WLs W B v N) (hq : NoC W q) : some q ≠ v.ownBlock := by
  obtain ⟨Vs, h1, -⟩ := h
  exact own_neC h1 hq
theorem OffB.new {S : Nat → Prop} {A B C : World} {row : Option Nat} (h : OffB S A B) (k : B.grownBy C row) (hg : ∀ g, row = some g → A.heap.size ≤ g) : OffB S A C :=
  ⟨k.os.trans h.os, k.tape.trans h.tape, k.output.trans h.output, Nat.le_trans h.size k.size, fun i hi hs => (k.block i (Nat.lt_of_lt_of_le hi h.size) (by
    intro e; have := hg i e.symm; omega)).trans (h.block i hi hs)⟩
theorem cntU_start {c : Chn} {a : Int} (h : a ∈ c.houses) : 1 + cntU c (metS (fun _ => false) a) ≤ c.houses.length := by
  have h1 := cntU_take (c := c) (m := fun _ => false) h rfl
  have h2 := cntU_le c fun _ => false
  omega
set_option maxHeartbeats 8000000 in
theorem way_any (c : Chn) (a b : Int) (l : List Int) (E : Int) (hv sv : Value) (w : World) (hw : WayOf c a b l E) (hT : Tab w) (hh : SlI w hv c.houses) (hs : SlL w sv c.sales) (hl : c.sales.length ≤ 1000) :
    Calls Tryd.prog 53 #[valC hv sv, .int .i64 a, .int .i64 b] w (ListQ l E w) := by
  have HT := Lib.hid hT; have HH := Lib.hid hh; have HS := Lib.hid hs; have HL := Lib.hid hl
  obtain ⟨A, n, cp, rfl, hn, hlc, hcm⟩ := hh.form
  obtain ⟨A2, n2, cp2, rfl, hn2, hlc2, hcm2⟩ := hs.form
  have B0 := Lib.hid (show Blk (w.alloc (.cells #[.slice A n cp, .slice A2 n2 cp2] 25)) w.heap.size 25 #[.slice A n cp, .slice A2 n2 cp2] from Blk.new _ _ _)
  clear hh hs hT hl
  go_enter Tryd.func53, Tryd.ntmps53
  go_wp2_with fail
  refine (check_any c _ _ _ (HT.out.ext (Ext.al _ _)) (HH.out.ext (Ext.al _ _)) (HS.out.ext (Ext.al _ _)) HL.out).mono ?_
  rintro e w1 ⟨rfl, hE⟩
  have E1 := Lib.hid ((Ext.al w _).trans hE); have B1 := Lib.hid (B0.out.ext hE)
  clear hE
  cases hc : checkP c with
  | false =>
    have HO := Lib.hid (way_chk hw hc)
    clear hw hc
    simp only [show errB false 60 = 60 from rfl]
    go_wp2
    go_ret2
    exact ⟨⟨.slice none 0 0, by rw [HO.out.2]; rfl, by rw [HO.out.1]; exact Sl.nil _⟩, E1.out⟩
  | true =>
    have HR := Lib.hid (check_right hc).1
    have HS10 := Lib.hid (check_right hc).2
    have HCK := Lib.hid hc
    clear hc
    simp only [show errB true 60 = 0 from rfl]
    have x0 := B1.out.c2
    go_wp2_with fail
    clear x0
    refine (has_any c.houses _ a _ (HH.out.ext E1.out)).mono ?_
    rintro e w2 ⟨rfl, hE⟩
    have E2 := Lib.hid (E1.out.trans hE); have B2 := Lib.hid (B1.out.ext hE)
    clear hE
    cases hqa : hasI c.houses a with
    | false =>
      have HO := Lib.hid (way_has hw HCK.out (by rw [hqa]; rfl))
      clear hqa hw
      go_wp2
      go_ret2
      exact ⟨⟨.slice none 0 0, by rw [HO.out.2]; rfl, by rw [HO.out.1]; exact Sl.nil _⟩, E2.out⟩
    | true =>
      have HQA := Lib.hid hqa
      clear hqa
      have x0 := B2.out.c2
      go_wp2_with fail
      clear x0
      refine (has_any c.houses _ b _ (HH.out.ext E2.out)).mono ?_
      rintro e w3 ⟨rfl, hE⟩
      have E3 := Lib.hid (E2.out.trans hE); have B3 := Lib.hid (B2.out.ext hE)
      clear hE
      cases hqb : hasI c.houses b with
      | false =>
        have HO := Lib.hid (way_has hw HCK.out (by rw [HQA.out, hqb]; rfl))
        clear hqb hw
        go_wp2
        go_ret2
        exact ⟨⟨.slice none 0 0, by rw [HO.out.2]; rfl, by rw [HO.out.1]; exact Sl.nil _⟩, E3.out⟩
      | true =>
        have HWY := Lib.hid (way_in hw HCK.out (by rw [HQA.out, hqb]; rfl))
        have HMA := Lib.hid (hasI_iff.1 HQA.out)
        clear hqb hw
        have hn6 : n ≤ 6 := by have := HR.out.h6; have := hn.out; omega
        have hn10 : n2 ≤ 10 := by have := HS10.out; have := hn2.out; omega
        have HBI := Lib.hid (show BInv c b l E (metS (fun _ => false) a) [(a, [])] from by
          rcases HWY.out with ⟨d, h1, h2, h3⟩ | ⟨h1, h2, h3⟩
          · refine .inl ⟨h3, d, 0, a, [], ⟨rfl, h1, by rw [h2]; rfl, fun i e hi => absurd hi (Nat.not_lt_zero _)⟩, ?_, fun v hv => ?_⟩
            · intro e he
              simp at he; subst he
              exact h1.n
            · unfold metS at hv
              split at hv
              · rename_i e; rw [e]; exact h1.n
              · cases hv
          · refine .inr ⟨h2, h3, ?_⟩
            intro e he
            simp at he; subst he
            exact h1)
        have hka : In64 a := by have := rising_gt HR.out.hr a HMA.out; unfold In64; omega
        have rm := fun w => run_makeMap (P := Tryd.prog) 147 w
        have hM4 := MapB.made (w3.alloc (.cells #[.int .i64 a, .slice none 0 0] 145))
        rw [World.size_alloc] at hM4
        obtain ⟨w6, s6, hM6, hG6⟩ := hM4.store hka (by omega) true
        have HM6 := Lib.hid hM6
        have HW6 := Lib.hid (show WLs w6 0 (.slice (some ⟨w3.heap.size, 0, none⟩) 1 1) [(a, [])] from
          ((WLs.one (Blk.new _ _ _) (Nat.zero_le _)).ext (Ext.al _ _)).offC hG6 hM4.noC)
        have E6 := Lib.hid (show Ext w3 w6 from ext_grown ((Ext.al _ _).trans (Ext.al _ _)) hG6 (by simp))
        have hz6 := hG6.size
        simp only [World.size_alloc] at hz6
        clear hM4 hM6 hG6 hka
        go_wp2
        clear rm s6
        refine wp_loop_ghost_k (fun g A' WS => ∃ (m : Int → Bool) (L : List Wy) (nn K : Nat) (Ao : Option Addr) (no co : Nat), muW c m L ≤ g ∧ nn + cntU c m ≤ n + 1 ∧ L.length ≤ 6 ∧ (∀ e ∈ L, e.2.length ≤ K) ∧ K + muW c m L ≤ 13 ∧ BInv c b l E m L ∧
          Fr 92 [(2, .int .i64 b), (3, .pointer (some ⟨w.heap.size, 0, none⟩)), (9, .slice Ao no co), (10, .map (some (w3.heap.size + 1)))] [] A' ∧
          Ext w3 WS ∧ MapB WS (w3.heap.size + 1) nn m ∧ WLs WS 0 (.slice Ao no co) L) 13 ?_ ?_
        · have h1 := cntU_start HMA.out
          have h2 := hn.out
          have h3 : muW c (metS (fun _ => false) a) [(a, [])] ≤ 13 := by unfold muW; simp; omega
          exact ⟨metS (fun _ => false) a, [(a, [])], 1, 0, _, _, _, h3, by omega, by simp, by simp, by omega, HBI.out, ⟨rfl, rfl, by simp [Act.eval]⟩, E6.out, HM6.out, HW6.out⟩
        · rintro g A' WS ⟨m, L, nn, K, Ao, no, co, hg, hnn, hLl, hLk, hK, hBI, hF, hE, hM, hWL⟩ J K' hJ hK'
          have HJ := Lib.hid hJ; have EWS := Lib.hid hE; have HM := Lib.hid hM; have HWL := Lib.hid hWL; have HBI2 := Lib.hid hBI; have HLK := Lib.hid hLk
          obtain ⟨_, _, _, ee, hnoL⟩ := hWL.form
          injection ee with e1 e2 e3
          subst e1 e2 e3
          obtain ⟨ρ, rfl, hρ⟩ := hF.open_
          simp only [List.forall_mem_cons] at hρ
          obtain ⟨r2, r3, r9, r10, -⟩ := hρ
          simp only [lst, Nat.reduceAdd, r2, r3, r9, r10]
          clear r2 r3 r9 r10 hF hE hM hWL hBI hLk hJ HBI E6 HM6 HW6
          have hzS := EWS.out.size
          by_cases hL0 : no = 0
          · have HLN := Lib.hid (show L = [] from List.eq_nil_of_length_eq_zero (by have := hnoL.out; omega))
            have HRES := Lib.hid (show l = [] ∧ E = 6 from binv_nil (m := m) (by have := HBI2.out; rwa [HLN.out] at this))
            subst hL0
            clear hnoL
            go_wp2
            go_ret2
            exact ⟨⟨.slice none 0 0, by rw [HRES.out.2]; rfl, by rw [HRES.out.1]; exact Sl.nil _⟩, E3.out.trans EWS.out⟩
          · have hnoz : (0 : Int) < (no : Int) := by omega
            have hno6 : no ≤ 6 := by have := hnoL.out; omega
            have HPI := Lib.hid (binv_start HBI2.out)
            clear HBI2
            go_wp2
            refine wp_loop_ghost_k (fun g2 A2' W => ∃ (i : Nat) (m' : Int → Bool) (N : List Wy) (nn' : Nat) (An : Option Addr) (nv cv : Nat), i ≤ no ∧ no - i ≤ g2 ∧ nn' + cntU c m' ≤ n + 1 ∧ N.length + cntU c m' ≤ cntU c m ∧ (∀ e ∈ N, e.2.length ≤ K + 1) ∧ PInv c b l E L i 0 m' N ∧
              Fr 92 [(2, .int .i64 b), (3, .pointer (some ⟨w.heap.size, 0, none⟩)), (9, .slice Ao no co), (10, .map (some (w3.heap.size + 1))), (11, .slice An nv cv), (42, .slice Ao no co), (43, .int .i64 (no : Int)), (44, .int .i64 (i : Int))] [] A2' ∧
              OffB (· = w3.heap.size + 1) WS W ∧ MapB W (w3.heap.size + 1) nn' m' ∧ WLs W WS.heap.size (.slice An nv cv) N) no ?_ ?_
            · exact ⟨0, m, [], nn, none, 0, 0, by omega, by omega, hnn, by simp, by simp, HPI.out, ⟨rfl, rfl, by simp [Act.eval]⟩, OffB.refl _ _, HM.out, WLs.nil _ _⟩
            · rintro g2 A2' W ⟨i, m', N, nn', An, nv, cv, hi, hg2, hnn2, hNl, hNk, hPI, hF, hOff, hM2, hWN⟩ J2 K2 hJ2 hK2
              have HJ2 := Lib.hid hJ2; have OW := Lib.hid hOff; have HM2 := Lib.hid hM2; have HWN := Lib.hid hWN; have HPI2 := Lib.hid hPI; have HNK := Lib.hid hNk
              obtain ⟨ρ, rfl, hρ⟩ := hF.open_
              simp only [List.forall_mem_cons] at hρ
              obtain ⟨r2, r3, r9, r10, r11, r42, r43, r44, -⟩ := hρ
              simp only [lst, Nat.reduceAdd, r2, r3, r9, r10, r11, r42, r43, r44]
              clear r2 r3 r9 r10 r11 r42 r43 r44 hF hOff hM2 hWN hPI hNk hJ2 HPI
              have hzW := OW.out.size
              by_cases hil : i < no
              · have hilz : (i : Int) < (no : Int) := by omega
                obtain ⟨⟨at_, nums⟩, he⟩ : ∃ e, L[i]? = some e := ⟨_, List.getElem?_eq_getElem (by have := hnoL.out; omega)⟩
                have HEI := Lib.hid he
                have HNB := Lib.hid (show nums.length ≤ K from HLK.out (at_, nums) (List.mem_of_getElem? he))
                obtain ⟨bw, ow, Av, nv2, cv2, hAo, -, hov, hc0, hc1⟩ := (HWL.out.off OW.out HM.out.noC).at_ he
                subst hAo
                obtain ⟨wx, hwx⟩ : ∃ wx, wx = W.alloc (.cells #[.int .i64 at_, .slice Av nv2 cv2] 145) := ⟨_, rfl⟩
                have BX := Lib.hid (show Blk wx W.heap.size 145 #[.int .i64 at_, .slice Av nv2 cv2] from hwx ▸ Blk.new _ _ _)
                have EX := Lib.hid (show Ext W wx from hwx ▸ Ext.al _ _)
                have HOV := Lib.hid (hov.ext EX.out)
                have HNW := Lib.hid (show some W.heap.size ≠ (Value.slice An nv cv).ownBlock from fun e => by have := (HWN.out.own_ge e.symm).2; omega)
                have x1 := BX.out.c2
                clear he hov
                by_cases hatb : at_ = b
                · subst hatb
                  have HFD := Lib.hid (pinv_found HPI2.out HEI.out)
                  rw [hwx] at x1
                  go_wp2
                  simp only [← hwx]
                  go_ret2
                  exact ⟨⟨.slice Av nv2 cv2, by rw [HFD.out.2]; rfl, by rw [HFD.out.1]; exact HOV.out.sl (fun _ => rfl)⟩, E3.out.trans ((ext_off EWS.out OW.out (fun i hi h => by omega)).trans EX.out)⟩
                · have hatf : (at_ == b) = false := by simpa using hatb
                  have HATB := Lib.hid hatb
                  have BCW := Lib.hid (B3.out.ext ((ext_off EWS.out OW.out (fun i hi h => by omega)).trans EX.out))
                  have x0 := BCW.out.c2
                  rw [hwx] at x1 x0
                  clear hatb
                  go_wp2
                  simp only [← hwx]
                  clear x0 x1 hwx hc0 hc1
                  refine wp_loop_ghost_k (fun g3 A3' X => ∃ (j : Nat) (m2 : Int → Bool) (N2 : List Wy) (nn2 : Nat) (An2 : Option Addr) (nv3 cv3 : Nat), j ≤ n2 ∧ n2 - j ≤ g3 ∧ nn2 + cntU c m2 ≤ n + 1 ∧ N2.length + cntU c m2 ≤ cntU c m ∧ (∀ e ∈ N2, e.2.length ≤ K + 1) ∧ PInv c b l E L i j m2 N2 ∧
                    Fr 92 [(2, .int .i64 b), (3, .pointer (some ⟨w.heap.size, 0, none⟩)), (9, .slice (some ⟨bw, ow, none⟩) no co), (10, .map (some (w3.heap.size + 1))), (11, .slice An2 nv3 cv3), (13, .pointer (some ⟨W.heap.size, 0, none⟩)), (42, .slice (some ⟨bw, ow, none⟩) no co), (43, .int .i64 (no : Int)), (44, .int .i64 (i : Int)), (55, .slice A2 n2 cp2), (56, .int .i64 (n2 : Int)), (57, .int .i64 (j : Int))] [] A3' ∧
                    OffB (· = w3.heap.size + 1) WS X ∧ MapB X (w3.heap.size + 1) nn2 m2 ∧ WLs X WS.heap.size (.slice An2 nv3 cv3) N2 ∧ Blk X W.heap.size 145 #[.int .i64 at_, .slice Av nv2 cv2] ∧ Own encI 3 1 X 0 (.slice Av nv2 cv2) nums ∧ some W.heap.size ≠ (Value.slice An2 nv3 cv3).ownBlock) n2 ?_ ?_
                  · exact ⟨0, m', N, nn', An, nv, cv, by omega, by omega, hnn2, hNl, HNK.out, HPI2.out, ⟨rfl, rfl, by simp [Act.eval]⟩, OW.out.ext EX.out, HM2.out.ext EX.out, HWN.out.ext EX.out, BX.out, HOV.out, HNW.out⟩
                  · rintro g3 A3' X ⟨j, m2, N2, nn2, An2, nv3, cv3, hj, hg3, hnn3, hNl3, hNk3, hPI3, hF, hOff, hM3, hWN3, hBX, hOV, hNW⟩ J3 K3 hJ3 hK3
                    have HJ3 := Lib.hid hJ3; have OX := Lib.hid hOff; have HM3 := Lib.hid hM3; have HWN3 := Lib.hid hWN3; have HPI3 := Lib.hid hPI3; have HNK3 := Lib.hid hNk3; have HBX := Lib.hid hBX; have HOV3 := Lib.hid hOV; have HNW3 := Lib.hid hNW
                    obtain ⟨ρ, rfl, hρ⟩ := hF.open_
                    simp only [List.forall_mem_cons] at hρ
                    obtain ⟨r2, r3, r9, r10, r11, r13, r42, r43, r44, r55, r56, r57, -⟩ := hρ
                    simp only [lst, Nat.reduceAdd, r2, r3, r9, r10, r11, r13, r42, r43, r44, r55, r56, r57]
                    clear r2 r3 r9 r10 r11 r13 r42 r43 r44 r55 r56 r57 hF hOff hM3 hWN3 hPI3 hNk3 hBX hOV hNW hJ3 HPI2 HNK HNW BX HOV BCW HWN HM2
                    have hzX := OX.out.size
                    by_cases hjl : j < n2
                    · have hjlz : (j : Int) < (n2 : Int) := by omega
                      have EWX := Lib.hid (ext_off EWS.out OX.out (fun i hi h => by omega))
                      have HSX := Lib.hid (HS.out.ext (E3.out.trans EWX.out))
                      obtain ⟨bs, os, x, rfl, hx, -, hcell⟩ := HSX.out.at_ hjl
                      obtain ⟨c0, c1, c2, c3, c4⟩ := SlL.cells hcell (Ext.refl _)
                      have HXJ := Lib.hid hx
                      have hbm := (HR.out.sale x (List.mem_of_getElem? hx)).2.2.1
                      have HBM := Lib.hid hbm
                      have hkb : In64 x.buyer := by have := rising_gt HR.out.hr x.buyer hbm; unfold In64; omega
                      obtain ⟨wy, hwy⟩ : ∃ wy, wy = X.alloc (.cells #[.int .i64 x.number, .int .i64 x.seller, .int .i64 x.buyer, .int .i64 x.bales, .int .i64 x.price] 68) := ⟨_, rfl⟩
                      have EY := Lib.hid (show Ext X wy from hwy ▸ Ext.al _ _)
                      have BY := Lib.hid (show Blk wy X.heap.size 68 #[.int .i64 x.number, .int .i64 x.seller, .int .i64 x.buyer, .int .i64 x.bales, .int .i64 x.price] from hwy ▸ Blk.new _ _ _)
                      have hMy := HM3.out.ext EY.out
                      have hlk := hMy.look hkb
                      have x1 := (HBX.out.ext EY.out).c2
                      rw [hwy] at hlk x1
                      have HMY := Lib.hid hMy
                      clear hx hcell hbm hMy
                      by_cases hsv : x.seller = at_
                      · subst hsv
                        cases hmb : m2 x.buyer with
                        | true =>
                          rw [hmb] at hlk
                          have HPN := Lib.hid (pinv_skip HPI3.out HEI.out HXJ.out (by simp [wTake, hmb]))
                          clear hmb hkb
                          go_wp2
                          simp only [← hwy]
                          exact Handed.intro (n2 - (j + 1)) (by omega) (HJ3.out _ _ _ ⟨j + 1, m2, N2, nn2, An2, nv3, cv3, by omega, Nat.le_refl _, hnn3, hNl3, HNK3.out, HPN.out, ⟨rfl, rfl, by simp [Act.eval]⟩, OX.out.ext EY.out, HMY.out, HWN3.out.ext EY.out, HBX.out.ext EY.out, HOV3.out.ext EY.out, HNW3.out⟩)
                        | false =>
                          rw [hmb] at hlk
                          have HPN := Lib.hid (pinv_take HPI3.out HEI.out HXJ.out (by simp [wTake, hmb]))
                          have HCN := Lib.hid (cntU_take HBM.out hmb)
                          obtain ⟨wz, sz, hMz, hGz⟩ := HMY.out.store hkb (by omega) true
                          have HMZ := Lib.hid (show MapB wz (w3.heap.size + 1) (nn2 + 1) (metS m2 x.buyer) from hMz)
                          have BZ1 := Lib.hid (Blk.offC (HBX.out.ext EY.out) hGz HMY.out.noC)
                          have OZ1 := Lib.hid (own_offC (HOV3.out.ext EY.out) hGz HMY.out.noC)
                          have BZ2 := Lib.hid (Blk.offC BY.out hGz HMY.out.noC)
                          have WZ := Lib.hid ((HWN3.out.ext EY.out).offC hGz HMY.out.noC)
                          have FZ := Lib.hid ((OX.out.ext EY.out).one hGz rfl)
                          have hzZ := FZ.out.size
                          have hWY : W.heap.size < wz.heap.size := BZ1.out.lt
                          rw [hwy] at sz
                          clear hmb hkb hMz hGz
                          go_wp2
                          clear sz hlk x1 c0 c1 c2 c3 c4 hwy
                          refine wayReg_wp (w := wz) (B := WS.heap.size) (gw := W.heap.size) (gs := X.heap.size) (at_ := x.seller) (x := x.number) (y := x.buyer) (sl := x.seller) (b3 := x.bales) (b4 := x.price) (vs := .slice Av nv2 cv2) (nums := nums) (Ao := An2) (no := nv3) (co := cv3) (N := N2)
                            (v2 := .int .i64 b) (v3 := .pointer (some ⟨w.heap.size, 0, none⟩)) (v9 := .slice (some ⟨bw, ow, none⟩) no co) (v10 := .map (some (w3.heap.size + 1))) (v42 := .slice (some ⟨bw, ow, none⟩) no co) (v43 := .int .i64 (no : Int)) (v44 := .int .i64 (i : Int)) (v55 := .slice (some ⟨bs, os, none⟩) n2 cp2) (v56 := .int .i64 (n2 : Int)) (v57 := .int .i64 (j : Int))
                            ⟨rfl, rfl, by simp [Act.eval]⟩ BZ1.out OZ1.out BZ2.out WZ.out hzZ (by have := HNB.out; omega) (by have := cntU_le c m; have := hn.out; omega) ?_
                          intro A4 W4 A5 n5 c5 hF4 hG4 hA4 hW4
                          have HW4 := Lib.hid hW4
                          have HM4 := Lib.hid (show MapB W4 (w3.heap.size + 1) (nn2 + 1) (metS m2 x.buyer) from HMZ.out.at_ (hG4.block _ HMZ.out.lt (WZ.out.neC HMZ.out.noC)))
                          have HB4 := Lib.hid (show Blk W4 W.heap.size 145 _ from BZ1.out.grown hG4 HNW3.out)
                          have HV4 := Lib.hid (WZ.out.diff OZ1.out hG4)
                          have HF4 := Lib.hid (FZ.out.new hG4 (fun g e => (WZ.out.own_ge e).1))
                          have HN4 := Lib.hid (show some W.heap.size ≠ (Value.slice A5 n5 c5).ownBlock from by
                            rcases hA4 with h | ⟨q, h, hq⟩
                            · rw [h]; exact HNW3.out
                            · rw [h]; intro e; injection e with e; omega)
                          obtain ⟨ρ, rfl, hρ⟩ := hF4.open_
                          simp only [List.forall_mem_cons] at hρ
                          obtain ⟨r2, r3, r9, r10, r11, r13, -, r42, r43, r44, r55, r56, r57, -⟩ := hρ
                          simp only [lst, Nat.reduceAdd, r2, r3, r9, r10, r11, r13, r42, r43, r44, r55, r56, r57]
                          clear r2 r3 r9 r10 r11 r13 r42 r43 r44 r55 r56 r57 hF4 hG4 hA4 hW4
                          go_wp2
                          have hc1 := HCN.out
                          exact Handed.intro (n2 - (j + 1)) (by omega) (HJ3.out _ _ _ ⟨j + 1, metS m2 x.buyer, N2 ++ [(x.buyer, nums ++ [x.number])], nn2 + 1, A5, n5, c5, by omega, Nat.le_refl _, by omega, by simp; omega, by
                            intro e he
                            rcases List.mem_append.1 he with he | he
                            · exact HNK3.out e he
                            · simp at he; subst he; simp; exact HNB.out, HPN.out, ⟨rfl, rfl, by simp [Act.eval]⟩, HF4.out, HM4.out, HW4.out, HB4.out, HV4.out, HN4.out⟩)
                      · have hsf : (x.seller == at_) = false := by simpa using hsv
                        have HPN := Lib.hid (pinv_skip HPI3.out HEI.out HXJ.out (by simp [wTake, hsv]))
                        clear hkb hlk hsv
                        go_wp2
                        simp only [← hwy]
                        exact Handed.intro (n2 - (j + 1)) (by omega) (HJ3.out _ _ _ ⟨j + 1, m2, N2, nn2, An2, nv3, cv3, by omega, Nat.le_refl _, hnn3, hNl3, HNK3.out, HPN.out, ⟨rfl, rfl, by simp [Act.eval]⟩, OX.out.ext EY.out, HMY.out, HWN3.out.ext EY.out, HBX.out.ext EY.out, HOV3.out.ext EY.out, HNW3.out⟩)
                    · have HPN := Lib.hid (pinv_next (i := i) (e := (at_, nums)) (by have := HPI3.out; rwa [show j = c.sales.length by have := hn2.out; omega] at this) HEI.out HATB.out)
                      go_wp2
                      exact Handed.intro (no - (i + 1)) (by omega) (HJ2.out _ _ _ ⟨i + 1, m2, N2, nn2, An2, nv3, cv3, by omega, Nat.le_refl _, hnn3, hNl3, HNK3.out, HPN.out, ⟨rfl, rfl, by simp [Act.eval]⟩, OX.out, HM3.out, HWN3.out⟩)
              · have HIE := Lib.hid (show i = L.length by have := hnoL.out; omega)
                have HBE := Lib.hid (show BInv c b l E m' N from pinv_end (L := L) (j := 0) (by have := HPI2.out; rwa [HIE.out] at this))
                have hLp : 0 < L.length := by have := hnoL.out; omega
                have HMU := Lib.hid (muW_down hLp hNl)
                have HEF := Lib.hid (ext_off EWS.out OW.out (fun i hi h => by omega))
                have hcn := cntU_le c m
                have hn0 := hn.out
                go_wp2
                have h1 := HMU.out
                exact Handed.intro (muW c m' N) (by omega) (HJ.out _ _ _ ⟨m', N, nn', K + 1, An, nv, cv, Nat.le_refl _, hnn2, by omega, HNK.out, by omega, HBE.out, ⟨rfl, rfl, by simp [Act.eval]⟩, HEF.out, HM2.out, HWN.out.mono (Nat.zero_le _)⟩)
end Go.Proofs.YtafdbgielmlihaaDoor
