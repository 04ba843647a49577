/- Lists of lists, read; mill's Lots; the reference's SameLists. -/
import Derived.Test.YtkpengeaolcjhaaDoorPkMlJudgesCardC
import Derived.Test.YtkpengeaolcjhaaDoorPkMlTellsCardU
import Derived.Test.YtkpengeaolcjhaaDoorPkMlTellsCardV
namespace Go.Proofs.YtkpengeaolcjhaaDoor
open Go.RowKit Go.Shelf Go.Lib
set_option maxRecDepth 100000
set_option linter.unusedSimpArgs false

abbrev Tri := Option Addr × Nat × Nat
abbrev encT (t : Tri) : List Value := [.slice t.1 t.2.1 t.2.2]
def triV : Value → Tri
  | .slice a n c => (a, n, c)
  | _ => (none, 0, 0)
/-- The value reads as the list of lists L. -/
def RdLL (W : World) (v : Value) (L : List (List Int)) : Prop :=
  ∃ ts : List Tri, Sl encT 1 W v ts ∧ ts.length = L.length ∧ ∀ (i : Nat) (t : Tri) (l : List Int), ts[i]? = some t → L[i]? = some l → SlI W (.slice t.1 t.2.1 t.2.2) l
theorem RdLL.ext {W W' : World} {v : Value} {L : List (List Int)} (h : RdLL W v L) (e : Ext W W') : RdLL W' v L := by
  obtain ⟨ts, h1, h2, h3⟩ := h
  exact ⟨ts, h1.ext e, h2, fun i t l k1 k2 => (h3 i t l k1 k2).ext e⟩
theorem RdLL.nil (W : World) : RdLL W (.slice none 0 0) [] := ⟨[], Sl.nil W, rfl, fun i t l h => by simp at h⟩
theorem LLs.rd {base go : Nat} {vs : List Value} {L : List (List Int)} {W : World} (h : LLs base go vs L W) (hl : L.length ≤ 1000) : RdLL W (.slice (some ⟨go, 0, none⟩) L.length L.length) L := by
  have hs : ∀ (i : Nat) (v : Value), vs[i]? = some v → ∃ l, L[i]? = some l ∧ v = .slice (triV v).1 (triV v).2.1 (triV v).2.2 ∧ SlI W v l := by
    intro i v hv
    have hi := (List.getElem?_eq_some_iff.1 hv).1
    obtain ⟨l, hl⟩ : ∃ l, L[i]? = some l := ⟨_, List.getElem?_eq_getElem (by have := h.len; omega)⟩
    have ho := h.own i v l hv hl
    obtain ⟨A, c, rfl, -⟩ := ho.2
    exact ⟨l, hl, rfl, ho.1.sl (fun _ => rfl)⟩
  refine ⟨vs.map triV, ⟨some ⟨go, 0, none⟩, L.length, by rw [List.length_map, h.len], by rw [List.length_map, h.len]; exact Nat.le_refl _, by unfold maxLen; omega, fun _ => ⟨go, 0, rfl, h.row.lt, fun k t hk j u hu => ?_⟩⟩, by rw [List.length_map, h.len], fun i t l ht hL => ?_⟩
  · rw [List.getElem?_map] at hk
    obtain ⟨v, hv, rfl⟩ := Option.map_eq_some_iff.1 hk
    obtain ⟨l, -, e, -⟩ := hs k v hv
    match j, hu with
    | 0, hu =>
      simp only [List.getElem?_cons_zero, Option.some.injEq] at hu
      rw [← e] at hu
      subst hu
      have := h.row.cell k
      simp only [Nat.zero_add, Nat.mul_one, Nat.add_zero]
      rw [this]
      simpa using hv
    | j + 1, hu => simp at hu
  · rw [List.getElem?_map] at ht
    obtain ⟨v, hv, rfl⟩ := Option.map_eq_some_iff.1 ht
    obtain ⟨l', h1, e, h2⟩ := hs i v hv
    rw [hL] at h1
    injection h1 with h1
    subst h1
    rw [← e]
    exact h2
def lotsP (m : Mll) (p : List Int) : List (List Int) := if judgeE m p = 0 then lotsL m.lots p (idsL m) else []
theorem lotsP_ok {m : Mll} {p : List Int} (h : judgeE m p = 0) : lotsP m p = lotsL m.lots p (idsL m) := if_pos h
theorem lotsP_no {m : Mll} {p : List Int} (h : judgeE m p ≠ 0) : lotsP m p = [] := if_neg h
theorem f56_any (r : Rc) (w : World) : Calls Tryd.prog 56 #[valC r] w fun e w' => e = .returned (.int .i64 r.c.b.id) ∧ Ext w w' := by
  go_enter Tryd.func56, Tryd.ntmps56
  go_wp2
  go_ret
  exact ⟨rfl, Ext.al _ _⟩
set_option maxHeartbeats 4000000 in
theorem lotsM_any (lots size : Int) (l : List Rc) (p : List Int) (sv pv : Value) (w : World) (hT : TabM w) (hs : MlC w sv l) (hp : SlI w pv p) (hlen : l.length ≤ 1000) :
    Calls Tryd.prog 21 #[valM lots size sv, pv] w fun e w' => (∃ v, e = .returned (.tuple #[v, .int .i64 (judgeE (mOf lots size l) p)]) ∧ RdLL w' v (lotsP (mOf lots size l) p)) ∧ Ext w w' := by
  have HS := Lib.hid hs; have HT := Lib.hid hT; have HLN := Lib.hid hlen; have HP := Lib.hid hp
  obtain ⟨A, n, c, rfl, hn, hlc, hcm⟩ := hs.1.form
  obtain ⟨A2, n2, c2, rfl, hn2, hlc2, hcm2⟩ := hp.form
  clear hs hT hn hn2 hp hlen
  go_enter Tryd.func21, Tryd.ntmps21
  go_wp2_with fail
  have E0 := Lib.hid (Ext.al w (.cells #[.int .i64 lots, .int .i64 size, .slice A n c] 24))
  refine (judged_any lots size l p _ _ _ (HT.out.ext E0.out) (HS.out.ext E0.out) (HP.out.ext E0.out) HLN.out).mono ?_
  rintro e w1 ⟨⟨tv, rfl, hJ⟩, hE⟩
  have E1 := Lib.hid (E0.out.trans hE)
  clear hE E0
  rcases hJ with ⟨h0, m, nn, rfl, hmp⟩ | ⟨h0, rfl⟩
  · have H0 := Lib.hid h0
    obtain ⟨hc, hok⟩ := judgeE_zero h0
    have hm := mok_of hc
    obtain ⟨lt, rfl⟩ := lots_nat hc
    have HM := Lib.hid hm
    have HPO := Lib.hid (pok_of hm (plan_of_ok hm hok))
    have hl3 : lt ≤ 3 := by have h : (lt : Int) ≤ 3 := hm.l3; omega
    rw [h0]
    clear h0 hc hok hm hmp
    go_wp2_with fail
    refine (each_any lt size l p _ _ (some m) (fun r => r.c.b.id) 56 #[] (enters_of Tryd.func56 (by kernel_rfl) rfl) _ (fun W r _ _ => f56_any r W) (HS.out.1.ext (E1.out.alloc _)) (HP.out.ext (E1.out.alloc _)) HPO.out.len HPO.out.rng hl3 HLN.out).mono ?_
    rintro e w2 ⟨⟨go, vs, rfl, -, hll⟩, hE⟩
    have HE2 := Lib.hid ((E1.out.alloc _).trans hE)
    have HR := Lib.hid (show RdLL w2 (.slice (some ⟨go, 0, none⟩) lt lt) (lotsP (mOf lt size l) p) by
      have hn : (lotsL (lt : Int) p (l.map fun r => r.c.b.id)).length = lt := by unfold lotsL; simp
      have h := hll.rd (by omega)
      rw [hn] at h
      rw [lotsP_ok H0.out]
      simpa [idsL, List.map_map, Function.comp_def] using h)
    clear hE hll
    go_wp2
    refine bodyPost_ret (v := .tuple #[.slice (some ⟨go, 0, none⟩) lt lt, .int .i64 (judgeE (mOf lt size l) p)]) (by rw [H0.out]; simp [results, Tryd.results21, go_sem]) rfl ?_
    exact ⟨⟨_, rfl, HR.out⟩, HE2.out⟩
  · have H0 := Lib.hid h0
    obtain ⟨er, HER⟩ : ∃ er, Hid (judgeE (mOf lots size l) p = er) := ⟨_, Lib.hid rfl⟩
    rw [HER.out] at h0 ⊢
    go_wp2
    refine bodyPost_ret (v := .tuple #[.slice none 0 0, .int .i64 er]) (by simp [results, Tryd.results21, go_sem]) rfl ?_
    exact ⟨⟨_, by rw [HER.out], by rw [lotsP_no H0.out]; exact RdLL.nil _⟩, E1.out.alloc _⟩
end Go.Proofs.YtkpengeaolcjhaaDoor
/- The reference's SameLists. -/
namespace Go.Proofs.YtkpengeaolcjhaaDoor
open Go.RowKit Go.Shelf Go.Lib
set_option maxRecDepth 100000
set_option linter.unusedSimpArgs false

theorem tri_cell {w W : World} {b off k : Nat} {x : Tri} (h : ∀ W, Ext w W → ∀ j u, (encT x)[j]? = some u → W.cell? ⟨b, off + k * 1 + j, none⟩ = some u) (hW : Ext w W) : W.cell? ⟨b, off + k, none⟩ = some (.slice x.1 x.2.1 x.2.2) := by
  simpa using h W hW 0 _ rfl
theorem sameLists_any (L : List (List Int)) (v v' : Value) (w : World) (h : RdLL w v L) (h' : RdLL w v' L) :
    Calls Tryd.prog 23 #[v, v'] w fun e w' => e = .returned (.bool true) ∧ Ext w w' := by
  obtain ⟨ts, h1, h2, h3⟩ := h
  obtain ⟨ts', h1', h2', h3'⟩ := h'
  obtain ⟨A, n, cp, rfl, hn, hlc, hcm⟩ := h1.form
  obtain ⟨A2, n2, cp2, rfl, hn2, hlc2, hcm2⟩ := h1'.form
  have HA := Lib.hid h1; have HB := Lib.hid h1'; have HR := Lib.hid h3; have HR' := Lib.hid h3'
  have hnn : n2 = n := by have := hn.out; have := hn2.out; omega
  subst hnn
  have HN := Lib.hid (show L.length = n2 by have := hn.out; omega)
  clear h1 h1' h2 h2' h3 h3' hn hn2
  go_enter Tryd.func23, Tryd.ntmps23
  go_wp2
  go_loopg [5] n2 (fun gg s wr => ∃ (k : Nat), k ≤ n2 ∧ n2 - k ≤ gg ∧ s = .int .i64 k ∧ Aside (Ext w wr))
  case atStart => exact ⟨0, by omega, by omega, rfl, Ext.refl _⟩
  case round =>
    obtain ⟨k, hk, hg, rfl, EW⟩ := hrel
    by_cases hlt : k < n2
    · have hjz : (k : Int) < (n2 : Int) := by omega
      obtain ⟨bb, off, x, rfl, hx, hb, hcell⟩ := HA.out.at_ hlt
      obtain ⟨bb', off', x', rfl, hx', hb', hcell'⟩ := HB.out.at_ hlt
      obtain ⟨l, hl⟩ : ∃ l, L[k]? = some l := ⟨_, List.getElem?_eq_getElem (by have := HN.out; omega)⟩
      have X := Lib.hid (HR.out k x l hx hl)
      have X' := Lib.hid (HR'.out k x' l hx' hl)
      have c0 := fun W (h : Ext wr W) => tri_cell hcell (EW.out.trans h)
      have d0 := fun W (h : Ext wr W) => tri_cell hcell' (EW.out.trans h)
      clear hx hx' hcell hcell' hl
      go_wp2
      refine wp_region_tame (fun W => Ext wr W) (fun W W' => Ext W W') (by kernel_rfl) 27 rfl (by decide +kernel) (Ext.refl _).drew ?_
      repeat (apply tame_q rfl; (intro ρ W hC hr hD; (obtain ⟨hrc, hrg, hrf, hrs⟩ := hr); (simp [go_sem] at hD); go_simp; first | exact ⟨⟨hC, Ext.refl _⟩, rfl⟩ | exact ⟨⟨hC, RS.refl _⟩, rfl⟩ | exact rfl); simp only [List.nil_append, List.cons_append])
      apply tame_q rfl
      · intro ρ W hC hr hD
        obtain ⟨hrc, hrg, hrf, hrs⟩ := hr
        simp [go_sem] at hD
        go_simp
        refine (sameIntsM_any l _ _ W (X.out.ext (EW.out.trans hC)) (X'.out.ext (EW.out.trans hC))).mono ?_
        rintro e w' ⟨rfl, hE⟩
        exact ⟨_, rfl, ⟨hC.trans hE, hE⟩, rfl⟩
      simp only [List.nil_append, List.cons_append]
      repeat (apply tame_q rfl; (intro ρ W hC hr hD; (obtain ⟨hrc, hrg, hrf, hrs⟩ := hr); (simp [go_sem] at hD); go_simp; first | exact ⟨⟨hC, Ext.refl _⟩, rfl⟩ | exact ⟨⟨hC, RS.refl _⟩, rfl⟩ | exact rfl); simp only [List.nil_append, List.cons_append])
      refine tame_end 27 rfl rfl (fun ρ W hC hr hF => ?_)
      obtain ⟨hrc, hrg, hrf, hrs⟩ := hr
      simp [go_sem] at hF
      apply frame_to
      · go_simp
        exact rfl
      clear hF hrs hrc hrg hrf
      have HC := Lib.hid hC; clear hC c0 d0
      go_wp2
      go_roundg (n2 - (k + 1))
      case measure => omega
      case rel => exact ⟨k + 1, by omega, by omega, rfl, EW.out.trans HC.out⟩
    · go_wp2
      go_ret
      exact ⟨rfl, EW.out⟩
end Go.Proofs.YtkpengeaolcjhaaDoor
/- The reference's Lots. -/
namespace Go.Proofs.YtkpengeaolcjhaaDoor
open Go.RowKit Go.Shelf Go.Lib
set_option maxRecDepth 100000
set_option linter.unusedSimpArgs false

theorem encT_one (t : Tri) : ∀ u ∈ encT t, u.oneCell' = true := by
  intro u hu
  simp at hu
  subst hu
  rfl
/-- The lots that are told already. -/
structure RLs (base : Nat) (v : Value) (L : List (List Int)) (ts : List Tri) (W : World) : Prop where
  own : Own encT 27 1 W base v ts
  len : ts.length = L.length
  each : ∀ (i : Nat) (t : Tri) (l : List Int), ts[i]? = some t → L[i]? = some l → Own encI 3 1 W base (.slice t.1 t.2.1 t.2.2) l
theorem RLs.ext {base : Nat} {v : Value} {L : List (List Int)} {ts : List Tri} {W W' : World} (h : RLs base v L ts W) (e : Ext W W') : RLs base v L ts W' := ⟨h.own.ext e, h.len, fun i t l a b => (h.each i t l a b).ext e⟩
theorem RLs.rd {base : Nat} {v : Value} {L : List (List Int)} {ts : List Tri} {W : World} (h : RLs base v L ts W) : RdLL W v L := ⟨ts, h.own.sl (fun _ => rfl), h.len, fun i t l a b => (h.each i t l a b).sl (fun _ => rfl)⟩
theorem RLs.snoc {base : Nat} {v v' : Value} {L : List (List Int)} {ts : List Tri} {W W' : World} {t : Tri} {l : List Int} (h : RLs base v L ts W) (k : OffX 27 W W') (ho : Own encT 27 1 W' base v' (ts ++ [t])) (hl : Own encI 3 1 W' base (.slice t.1 t.2.1 t.2.2) l) : RLs base v' (L ++ [l]) (ts ++ [t]) W' := by
  refine ⟨ho, by simp [h.len], fun i t' l' h1 h2 => ?_⟩
  have hlen := h.len
  by_cases hi : i < ts.length
  · rw [List.getElem?_append_left hi] at h1
    rw [List.getElem?_append_left (by omega)] at h2
    exact (h.each i t' l' h1 h2).offX k (by decide)
  · have hi2 := (List.getElem?_eq_some_iff.1 h1).1
    simp at hi2
    have he : i = ts.length := by omega
    subst he
    rw [List.getElem?_append_right (Nat.le_refl _)] at h1
    rw [hlen, List.getElem?_append_right (Nat.le_refl _)] at h2
    simp at h1 h2
    subst h1 h2
    exact hl
set_option maxHeartbeats 4000000 in
theorem refLots_any (lots size : Int) (l : List Rc) (p : List Int) (sv pv : Value) (w : World) (hs : MlC w sv l) (hp : SlI w pv p) (hlen : l.length ≤ 1000) :
    Calls Tryd.prog 22 #[valM lots size sv, pv] w fun e w' => (∃ v, e = .returned (.tuple #[v, .int .i64 (judgeE (mOf lots size l) p)]) ∧ RdLL w' v (lotsP (mOf lots size l) p)) ∧ Ext w w' := by
  have HS := Lib.hid hs; have HLN := Lib.hid hlen; have HP := Lib.hid hp
  obtain ⟨A, n, c, rfl, hn, hlc, hcm⟩ := hs.1.form
  obtain ⟨A2, n2, c2, rfl, hn2, hlc2, hcm2⟩ := hp.form
  have HL := Lib.hid (show l.length = n from hn.out.symm)
  have HL2 := Lib.hid (show p.length = n2 from hn2.out.symm)
  clear hs hn hn2 hp hlen
  go_enter Tryd.func22, Tryd.ntmps22
  go_wp2_with fail
  have E0 := Lib.hid (Ext.al w (.cells #[.int .i64 lots, .int .i64 size, .slice A n c] 24))
  have B0 := Lib.hid (Blk.new w 24 #[.int .i64 lots, .int .i64 size, .slice A n c])
  refine (allowed_any lots size l p _ _ _ (HS.out.ext E0.out) (HP.out.ext E0.out) HLN.out).mono ?_
  rintro e w1 ⟨rfl, hE⟩
  have E1 := Lib.hid (E0.out.trans hE)
  have B1 := Lib.hid (B0.out.ext hE)
  clear hE E0 B0
  obtain ⟨er, HER⟩ : ∃ er, Hid (judgeE (mOf lots size l) p = er) := ⟨_, Lib.hid rfl⟩
  rw [HER.out]
  by_cases h0 : er = 0
  · subst h0
    obtain ⟨hc, hok⟩ := judgeE_zero HER.out
    have hm := mok_of hc
    obtain ⟨lt, rfl⟩ := lots_nat hc
    have HPO := Lib.hid (pok_of hm (plan_of_ok hm hok))
    have hl3 : lt ≤ 3 := by have h : (lt : Int) ≤ 3 := hm.l3; omega
    have hn7 : n ≤ 7 := by have h := hm.n7; simp at h; have := HL.out; omega
    have hnn : n2 = n := by have h1 := HPO.out.len; have := HL.out; have := HL2.out; omega
    subst hnn
    have HID := Lib.hid (show idsL (mOf lt size l) = l.map (fun r => r.c.b.id) by unfold idsL; rw [List.map_map]; rfl)
    clear hc hok hm
    have hzw : w.heap.size ≤ w1.heap.size := E1.out.size
    go_wp2
    go_loopg [7, 8] lt (fun gg s7 s8 wr => ∃ (k : Nat) (ts : List Tri), k ≤ lt ∧ lt - k ≤ gg ∧ s8 = .int .i64 ((k : Int) + 1) ∧ Aside (RLs w.heap.size s7 ((List.range k).map fun (i : Nat) => lotL p (l.map fun r => r.c.b.id) ((i : Int) + 1)) ts wr) ∧ Aside (Blk wr w.heap.size 24 #[.int .i64 lt, .int .i64 size, .slice A n2 c]) ∧ Aside (Ext w wr))
    case atStart => exact ⟨0, [], by omega, by omega, by simp, ⟨Own.nil _ _, rfl, fun i t l h => by simp at h⟩, B1.out, E1.out⟩
    case round =>
      obtain ⟨k, ts, hk, hgg, rfl, RL, BX, EW⟩ := hrel
      clear B1 E1
      obtain ⟨b0, b1, b2, bf, bl⟩ := BX.out.c3
      by_cases hkl : k < lt
      · have hkz : (k : Int) + 1 ≤ (lt : Int) := by omega
        have hzr : w.heap.size ≤ wr.heap.size := EW.out.size
        rename World => wO
        go_wp2
        go_loopg [9, 26] n2 (fun gg s9 s26 wr => ∃ kk : Nat, kk ≤ n2 ∧ n2 - kk ≤ gg ∧ s26 = .int .i64 (kk : Int) ∧ Aside (Own encI 3 1 wr wO.heap.size s9 (lotL (p.take kk) ((l.map fun r => r.c.b.id).take kk) ((k : Int) + 1))) ∧ Aside (Ext wO wr))
        case atStart => exact ⟨0, by omega, by omega, by simp, Own.nil _ _, Ext.refl _⟩
        case round =>
          obtain ⟨kk, hkk, hgi, rfl, OW, EI⟩ := hrel
          clear b0 b1 b2 bf bl
          obtain ⟨b0, b1, b2, bf, bl⟩ := (BX.out.ext EI.out).c3
          have hz3 : wO.heap.size ≤ wr.heap.size := EI.out.size
          by_cases hlt : kk < n2
          · have hltz : (kk : Int) < (n2 : Int) := by omega
            obtain ⟨bi, offi, y, rfl, hy, hb, hcell⟩ := HP.out.at_ hlt
            obtain ⟨bj, offj, x, rfl, hx, hbj, hcellj⟩ := HS.out.1.at_ hlt
            have c0 := SlI.cell hcell (EW.out.trans EI.out)
            obtain ⟨x0, -⟩ := SlC.cells hcellj (EW.out.trans EI.out)
            have hid : (l.map fun r => r.c.b.id)[kk]? = some x.c.b.id := by rw [List.getElem?_map, hx]; rfl
            have HTK := Lib.hid (show lotL (p.take (kk + 1)) ((l.map fun r => r.c.b.id).take (kk + 1)) ((k : Int) + 1) = lotL (p.take kk) ((l.map fun r => r.c.b.id).take kk) ((k : Int) + 1) ++ (if y = (k : Int) + 1 then [x.c.b.id] else []) by
              rw [List.take_add_one, List.take_add_one, hy, hid]
              exact lotL_snoc (by rw [List.length_take, List.length_take, List.length_map]; have := HL.out; have := HL2.out; omega) _ _ _)
            have HLB := Lib.hid (show (lotL (p.take kk) ((l.map fun r => r.c.b.id).take kk) ((k : Int) + 1)).length < 100000000000 by
              unfold lotL
              rw [List.length_map]
              have h1 := List.length_filter_le (fun x : Int × Int => x.1 == (k : Int) + 1) ((p.take kk).zip ((l.map fun r => r.c.b.id).take kk))
              rw [List.length_zip, List.length_take, List.length_take] at h1
              omega)
            generalize lotL (p.take kk) ((l.map fun r => r.c.b.id).take kk) ((k : Int) + 1) = L0 at *
            clear hcell hcellj hx hy hid hb hbj
            by_cases hyk : y = (k : Int) + 1
            · have HT2 := Lib.hid (show lotL (p.take (kk + 1)) ((l.map fun r => r.c.b.id).take (kk + 1)) ((k : Int) + 1) = L0 ++ [x.c.b.id] by rw [HTK.out, if_pos hyk])
              subst hyk
              go_wp2_with (at_builtin; refine wpList_app encI 27 3 1 _ 8 Tryd.underlying27 info3x rfl (by decide) (by decide) (fun _ => rfl) encI_one rfl (.tmp 34) (.tmp 42) rfl wO.heap.size _ L0 rfl (OW.out.alloc _) wr.heap.size 1 x.c.b.id rfl (cells1 (by simp [go_sem])) HLB.out (by simp; omega) ?_)
              intro g cap w' hown hg2 hbel _
              rw [← HT2.out] at hown
              have HO := Lib.hid hown
              have HB := Lib.hid (show Ext wO w' from Below.trans (EI.out.alloc _) hbel)
              clear hown hbel
              go_wp2
              go_roundg (n2 - (kk + 1))
              case measure => omega
              case rel => exact ⟨kk + 1, by omega, by omega, by simp, HO.out, HB.out⟩
            · have HT2 := Lib.hid (show lotL (p.take (kk + 1)) ((l.map fun r => r.c.b.id).take (kk + 1)) ((k : Int) + 1) = L0 by rw [HTK.out, if_neg hyk]; simp)
              go_wp2
              go_roundg (n2 - (kk + 1))
              case measure => omega
              case rel => exact ⟨kk + 1, by omega, by omega, by simp, by rw [HT2.out]; exact OW.out, EI.out⟩
          · have hke : kk = n2 := by omega
            subst hke
            rw [List.take_of_length_le (by have := HL2.out; omega), List.take_of_length_le (by rw [List.length_map]; have := HL.out; omega)] at OW
            obtain ⟨Av, nv, cv, rfl, -, -, -⟩ := (show SlI wr _ _ from OW.out.sl (fun _ => rfl)).form
            have RL3 := Lib.hid (RL.out.ext EI.out)
            have BX3 := Lib.hid (BX.out.ext EI.out)
            have EW3 := Lib.hid (EW.out.trans EI.out)
            have HTL := Lib.hid (show ts.length < 100000000000 by have := RL.out.len; simp at this; omega)
            have HOW := Lib.hid (OW.out.mono hzr)
            have HRG := Lib.hid (show ((List.range (k + 1)).map fun (i : Nat) => lotL p (l.map fun r => r.c.b.id) ((i : Int) + 1)) = ((List.range k).map fun (i : Nat) => lotL p (l.map fun r => r.c.b.id) ((i : Int) + 1)) ++ [lotL p (l.map fun r => r.c.b.id) ((k : Int) + 1)] by rw [List.range_succ, List.map_append]; rfl)
            clear OW RL BX EW
            go_wp2_with (at_builtin; refine wpList_app encT 43 27 1 _ 24 Tryd.underlying43 info27y rfl (by decide) (by decide) (fun _ => rfl) encT_one rfl (.tmp 45) (.tmp 47) rfl w.heap.size _ ts rfl (RL3.out.own.alloc _) wr.heap.size 1 (Av, nv, cv) rfl (cells1 (by simp [go_sem])) HTL.out (by simp; omega) ?_)
            intro g cap w' hown hg2 hbel hgr
            have HOF := Lib.hid (OffX.grown (enc := encT) (sz := 1) (RL3.out.own.alloc _) hgr)
            have HR := Lib.hid (RLs.snoc (RL3.out.ext (Ext.al _ _)) HOF.out hown ((HOW.out.alloc _).offX HOF.out (by decide)))
            rw [← HRG.out] at HR
            have HB := Lib.hid (show Ext w w' from Below.trans (EW3.out.alloc _) hbel)
            have HBX := Lib.hid (HOF.out _ _ _ (by decide) (BX3.out.alloc _))
            clear hown hbel hgr b0 b1 b2 bf bl
            obtain ⟨b0, b1, b2, bf, bl⟩ := HBX.out.c3
            go_wp2
            go_roundg (lt - (k + 1))
            case measure => omega
            case rel => exact ⟨k + 1, ts ++ [(Av, nv, cv)], by omega, by omega, by simp, HR.out, HBX.out, HB.out⟩
      · have hke : k = lt := by omega
        subst hke
        have HR := Lib.hid (show RdLL wr u7 (lotsP (mOf k size l) p) by
          rw [lotsP_ok HER.out]
          have h := RL.out.rd
          have e : lotsL (mOf k size l).lots p (idsL (mOf k size l)) = (List.range k).map fun (i : Nat) => lotL p (l.map fun r => r.c.b.id) ((i : Int) + 1) := by
            rw [HID.out]; unfold lotsL; simp
          rw [e]; exact h)
        go_wp2
        refine bodyPost_ret (v := .tuple #[u7, .int .i64 0]) (by simp [results, Tryd.results22, go_sem]) rfl ?_
        exact ⟨⟨_, by rw [HER.out], HR.out⟩, EW.out⟩
  · have H0 := Lib.hid (show judgeE (mOf lots size l) p ≠ 0 by rw [HER.out]; exact h0)
    go_wp2
    refine bodyPost_ret (v := .tuple #[.slice none 0 0, .int .i64 er]) (by simp [results, Tryd.results22, go_sem]) rfl ?_
    exact ⟨⟨_, by rw [HER.out], by rw [lotsP_no H0.out]; exact RdLL.nil _⟩, E1.out⟩
end Go.Proofs.YtkpengeaolcjhaaDoor
/- The law MillJudges: the walk. -/
namespace Go.Proofs.YtkpengeaolcjhaaDoor
open Go.RowKit Go.Shelf Go.Lib
set_option maxRecDepth 100000
set_option linter.unusedSimpArgs false

/-- What stands still while the law runs. -/
structure MjT (lots size : Int) (l L : List Rc) (pl : List Int) (w : World) (q : Nat) (A A2 Ap Am : Option Addr) (n n2 np nm c c2 cp cm : Nat) (W : World) : Prop where
  m : MsT lots size l L w q A A2 n n2 c c2 W
  sp : SlI W (.slice Ap np cp) pl
  sm : SlI W (.slice Am nm cm) pl
theorem MjT.ext {lots size : Int} {l L : List Rc} {pl : List Int} {w : World} {q : Nat} {A A2 Ap Am : Option Addr} {n n2 np nm c c2 cp cm : Nat} {W W' : World} (h : MjT lots size l L pl w q A A2 Ap Am n n2 np nm c c2 cp cm W) (e : Ext W W') : MjT lots size l L pl w q A A2 Ap Am n n2 np nm c c2 cp cm W' :=
  ⟨h.m.ext e, h.sp.ext e, h.sm.ext e⟩
set_option maxHeartbeats 8000000 in
theorem millJudges_any (lots size : Int) (l : List Rc) (p : List Int) (sv pv : Value) (w : World) (hT : TabM w) (hs : MlC w sv l) (hp : SlI w pv p) :
    Calls Tryd.prog 4 #[valM lots size sv, pv] w fun e w' => e = .returned (.bool true) ∧ Ext w w' := by
  have HT := Lib.hid hT; have HS := Lib.hid hs; have HP := Lib.hid hp
  obtain ⟨A, n, c, rfl, hn, hlc, hcm⟩ := hs.1.form
  obtain ⟨Ap, np, cp, rfl, hnp, hlp, hcp⟩ := hp.form
  have HPL := Lib.hid (show p.length = np from hnp.out.symm)
  clear hs hT hn hlc hcm hp hnp
  go_enter Tryd.func4, Tryd.ntmps4
  dsimp only [valM]
  go_wp2_with fail
  generalize hw0 : (w.alloc (.cells #[.int .i64 lots, .int .i64 size, .slice A n c] 24)) = w0
  have HE0 := Lib.hid (show Ext w w0 from hw0 ▸ Ext.al _ _)
  have HB0 := Lib.hid (show Blk w0 w.heap.size 24 #[.int .i64 lots, .int .i64 size, .slice A n c] from hw0 ▸ Blk.new _ _ _)
  clear hw0
  refine (greatM_any lots size l _ _ (HS.out.ext HE0.out)).mono ?_
  rintro e w1 ⟨rfl, hE⟩
  have HE1 := Lib.hid (HE0.out.trans hE)
  have HB1 := Lib.hid (HB0.out.ext hE)
  clear hE HB0
  cases hg : greatM l with
  | true =>
    go_wp2
    go_ret
    exact ⟨rfl, HE1.out⟩
  | false =>
    have HLE := Lib.hid (greatM_len hg)
    have HG := Lib.hid hg; clear hg
    by_cases hgt : (14 : Int) < (np : Int)
    · go_wp2
      go_ret
      exact ⟨rfl, HE1.out⟩
    · have x0 := HB1.out.c3
      have hp14 : np ≤ 14 := by omega
      go_wp2_with fail
      clear x0
      refine (twinM_any lots size l _ _ (HS.out.ext HE1.out) HG.out).mono ?_
      rintro e w2 ⟨⟨v, L, rfl, tv⟩, hE2⟩
      have HMC := Lib.hid tv.mlc; have HMP := Lib.hid tv.map
      obtain ⟨A2, n2, c2, rfl, -, -, -⟩ := tv.mlc.1.form
      have HE2 := Lib.hid (HE1.out.trans hE2)
      have HBx := Lib.hid (HB1.out.ext hE2)
      clear tv hE2 HB1 HE0 HE1
      dsimp only [valM]
      go_wp2_with (at_builtin; refine wpList_copyI rfl (.tmp 30) (.tmp 31) rfl (base := w2.heap.size) (g := w2.heap.size) rfl rfl (Blk.new _ _ _) (Nat.le_refl _) (by simp) ((HP.out.ext HE2.out).ext (Ext.al _ _)) (by have := HPL.out; omega) ?_)
      intro v1 w3 hown hext
      have HO := Lib.hid (show SlI w3 v1 p from hown.1.sl (fun _ => rfl))
      have HX3 := Lib.hid (show Ext w2 w3 from (Ext.al _ _).trans hext)
      obtain ⟨Am, nm, cm, rfl, -, -, -⟩ := HO.out.form
      clear hown hext
      go_wp2_with fail
      have S := Lib.hid (show MjT lots size l L p w w3.heap.size A A2 Ap Am n n2 np nm c c2 cp cm (w3.alloc (.cells #[.int .i64 lots, .int .i64 size, .slice A2 n2 c2] 24)) from
        ⟨⟨(HE2.out.trans HX3.out).alloc _, (HBx.out.ext HX3.out).alloc _, Blk.new _ _ _, (HT.out.ext (HE2.out.trans HX3.out)).ext (Ext.al _ _), (HS.out.ext (HE2.out.trans HX3.out)).ext (Ext.al _ _), (HMC.out.ext HX3.out).ext (Ext.al _ _)⟩, (HP.out.ext (HE2.out.trans HX3.out)).ext (Ext.al _ _), HO.out.ext (Ext.al _ _)⟩)
      have HLL := Lib.hid (show L.length ≤ 1000 by have := congrArg List.length HMP.out; simp at this; have := HLE.out; omega)
      have HLl := Lib.hid (show l.length ≤ 1000 by have := HLE.out; omega)
      have HM := Lib.hid (mOf_map (lots := lots) (size := size) HMP.out)
      clear HT HS HMC HBx HE2 HP HO HX3
      refine (judgeM_any lots size L p _ _ _ S.out.m.t S.out.m.b S.out.sm HLL.out).mono ?_
      rintro e w4 ⟨rfl, hE⟩
      rw [HM.out]
      replace S := Lib.hid (S.out.ext hE)
      clear hE
      obtain ⟨ju, hju⟩ : ∃ u, judU (mOf lots size l) p = u := ⟨_, rfl⟩
      obtain ⟨er, her⟩ : ∃ u, judgeE (mOf lots size l) p = u := ⟨_, rfl⟩
      have HJU := Lib.hid hju; have HER := Lib.hid her
      rw [hju, her]
      clear hju her
      have x0 := S.out.m.p.c3
      go_wp2_with fail
      clear x0
      refine (refJudge_any lots size l p _ _ _ S.out.m.a S.out.sp HLl.out).mono ?_
      rintro e w5 ⟨rfl, hE⟩
      rw [HJU.out, HER.out]
      replace S := Lib.hid (S.out.ext hE)
      clear hE
      have x0 := S.out.m.q.c3
      go_wp2_with fail
      clear x0
      refine (lotsM_any lots size L p _ _ _ S.out.m.t S.out.m.b S.out.sm HLL.out).mono ?_
      rintro e w6 ⟨⟨v3, rfl, hv3⟩, hE⟩
      rw [HM.out] at hv3 ⊢
      rw [HER.out]
      have L3 := Lib.hid hv3
      replace S := Lib.hid (S.out.ext hE)
      clear hE hv3
      have x0 := S.out.m.p.c3
      go_wp2_with fail
      clear x0
      refine (refLots_any lots size l p _ _ _ S.out.m.a S.out.sp HLl.out).mono ?_
      rintro e w7 ⟨⟨v4, rfl, hv4⟩, hE⟩
      rw [HER.out]
      have L4 := Lib.hid hv4
      replace L3 := Lib.hid (L3.out.ext hE)
      replace S := Lib.hid (S.out.ext hE)
      clear hE hv4
      go_wp2_with fail
      refine (sameLists_any _ _ _ _ L3.out L4.out).mono ?_
      rintro e w8 ⟨rfl, hE⟩
      replace S := Lib.hid (S.out.ext hE)
      clear hE L3 L4
      have x0 := S.out.m.q.c3
      go_wp2_with fail
      clear x0
      refine (swapM_any lots size L p _ _ _ S.out.m.t S.out.m.b S.out.sm HLL.out).mono ?_
      rintro e w9 ⟨rfl, hE⟩
      rw [HM.out]
      replace S := Lib.hid (S.out.ext hE)
      clear hE
      obtain ⟨so, hso⟩ : ∃ u, swapO (mOf lots size l) p = u := ⟨_, rfl⟩
      obtain ⟨se, hse⟩ : ∃ u, swapE (mOf lots size l) p = u := ⟨_, rfl⟩
      have HSO := Lib.hid hso; have HSE := Lib.hid hse
      rw [hso, hse]
      clear hso hse
      have x0 := S.out.m.p.c3
      go_wp2_with fail
      clear x0
      refine (refSwap_any lots size l p _ _ _ S.out.m.a S.out.sp HLl.out).mono ?_
      rintro e w10 ⟨rfl, hE⟩
      rw [HSO.out, HSE.out]
      replace S := Lib.hid (S.out.ext hE)
      clear hE
      have x0 := S.out.m.q.c3
      go_wp2_with fail
      clear x0
      refine (runM_any lots size L p _ _ _ S.out.m.t S.out.m.b S.out.sm HLL.out).mono ?_
      rintro e w11 ⟨⟨v5, rfl, hv5⟩, hE⟩
      rw [HM.out] at hv5 ⊢
      rw [HER.out]
      have L5 := Lib.hid hv5
      replace S := Lib.hid (S.out.ext hE)
      clear hE hv5
      obtain ⟨rt, hrt⟩ : ∃ u, runT (mOf lots size l) p = u := ⟨_, rfl⟩
      have HRT := Lib.hid hrt
      rw [hrt]
      clear hrt
      have x0 := S.out.m.p.c3
      go_wp2_with fail
      clear x0
      refine (refRunM_any lots size l p _ _ _ S.out.m.a S.out.sp HLl.out).mono ?_
      rintro e w12 ⟨⟨v6, rfl, hv6⟩, hE⟩
      rw [HER.out, HRT.out]
      have L6 := Lib.hid hv6
      replace L5 := Lib.hid (L5.out.ext hE)
      replace S := Lib.hid (S.out.ext hE)
      clear hE hv6
      go_wp2_with fail
      refine (sameIntsM_any (runL (mOf lots size l) p) _ _ _ L5.out L6.out).mono ?_
      rintro e w13 ⟨rfl, hE⟩
      replace S := Lib.hid (S.out.ext hE)
      clear hE L5 L6
      have x0 := S.out.m.p.c3
      have x1 := S.out.m.q.c3
      go_wp2_with fail
      clear x0 x1
      refine (sameM_any lots size L l _ _ _ HMP.out S.out.m.b S.out.m.a).mono ?_
      rintro e w14 ⟨rfl, hE⟩
      replace S := Lib.hid (S.out.ext hE)
      clear hE
      go_wp2_with fail
      refine (sameIntsM_any p _ _ _ S.out.sm S.out.sp).mono ?_
      rintro e w15 ⟨rfl, hE⟩
      replace S := Lib.hid (S.out.ext hE)
      clear hE
      go_wp2
      go_ret
      exact ⟨rfl, S.out.m.e⟩
end Go.Proofs.YtkpengeaolcjhaaDoor
