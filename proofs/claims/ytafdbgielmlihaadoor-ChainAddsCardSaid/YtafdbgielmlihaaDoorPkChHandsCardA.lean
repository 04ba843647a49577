/- The reference's round, whole. -/
import Derived.Test.YtafdbgielmlihaaDoorPkChTellsCardL
namespace Go.Proofs.YtafdbgielmlihaaDoor
open Go.RowKit Go.Shelf Go.Lib
set_option maxRecDepth 100000
set_option linter.unusedSimpArgs false

/-- What a round gives. -/
def RoundP (c : Chn) (f : Nat → Int) (M : List Int) (w : World) (e : Ending) (w' : World) : Prop :=
  Ext w w' ∧ ((e = .returned (.slice none 0 0) ∧ Opt (salsAt c f) (balesOf c) M) ∨
    ∃ go z, e = .returned (.slice (some ⟨go, 0, none⟩) M.length M.length) ∧ 0 < M.length ∧ w.heap.size ≤ go ∧ RowI w' go z ∧ z.length = M.length ∧
      Feas (salsAt c f) (List.zipWith (· + ·) M z) ∧ (∀ v, net (salsAt c f) (List.zipWith (· + ·) M z) v = net (salsAt c f) M v) ∧ cost (salsAt c f) (List.zipWith (· + ·) M z) < cost (salsAt c f) M)
set_option maxHeartbeats 4000000 in
theorem round_any {c : Chn} {f : Nat → Int} {Ks M : List Int} {hv sv kv mv : Value} {w : World}
    (hR : Right c) (hl : c.sales.length ≤ 11) (hKs : ∀ i y, Ks[i]? = some y → y = f i) (hKl : Ks.length = c.sales.length) (hKb : ∀ i, -20000000000000 ≤ f i ∧ f i ≤ 20000000000000) (hFe : Feas (salsAt c f) M) (hne : ∀ v, net (salsAt c f) M v = net (salsAt c f) (balesOf c) v)
    (hh : SlI w hv c.houses) (hs : SlL w sv c.sales) (hm : SlI w mv M) (hk : SlI w kv Ks) :
    Calls Tryd.prog 113 #[valC hv sv, kv, mv] w (RoundP c f M w) := by
  obtain ⟨A, n, cp, rfl, hn, hlc, hcm⟩ := hh.form
  obtain ⟨A2, n2, cp2, rfl, hn2, hlc2, hcm2⟩ := hs.form
  have hml : M.length = c.sales.length := by rw [feas_len hFe, at_len]
  have hn6 : n ≤ 6 := by have := hn.out; have := hR.h6; omega
  have hn11 : n2 ≤ 11 := by have := hn2.out; omega
  have hS1 := at_mem hR f
  have HNone := Lib.hid (fun (h : (roundS (resArcs 0 (salsAt c f) M) (n + 1)).2 = none) => (show Opt (salsAt c f) (balesOf c) M by
    have := round_none (n := n) hFe (fun v => by rw [at_caps]; exact hne v) h
    rwa [at_caps] at this))
  have HSome := Lib.hid (fun v => round_some (n := n) (fun x hx => by have := hS1 x hx; have := hn.out; omega) hFe (v := v))
  have HR := Lib.hid hR; have HH := Lib.hid hh; have HS := Lib.hid hs; have HM := Lib.hid hm; have HK := Lib.hid hk; have HKS := Lib.hid hKs; have HKL := Lib.hid hKl; have HKB := Lib.hid hKb; have HML := Lib.hid hml; have HL := Lib.hid hl; have HFE := Lib.hid hFe
  have hmk := fun w => run_makeI (n := n) (by omega) w
  have hmk2 := fun w => run_makeI (n := n2) (by omega) w
  have B0 := Lib.hid (show Blk (w.alloc (.cells #[.slice A n cp, .slice A2 n2 cp2] 25)) w.heap.size 25 #[.slice A n cp, .slice A2 n2 cp2] from Blk.new _ _ _)
  clear hR hh hs hm hk hKs hKl hKb hml hl hFe hne hS1
  go_enter Tryd.func113, Tryd.ntmps113
  go_upto_block 0 with (fail)
  refine passes2_wp (c := c) (f := f) (Ks := Ks) (M := M) (b3 := w.heap.size) (gc := w.heap.size + 1) (gb := w.heap.size + 2) (n := n) (w0 := w) HR.out (by have := HL.out; omega) hn.out HKS.out HKL.out HKB.out HML.out ⟨rfl, rfl, by simp [Act.eval]⟩ HH.out HS.out HM.out HK.out (by omega) (by omega) (by omega) (by omega) (by omega) (by omega)
    ⟨(Ext.al _ _).trans ((Ext.al _ _).trans (Ext.al _ _)), (B0.out.alloc _).alloc _, RowI.alloc (Blk.at_ (by simp)) _, Blk.at_ (by simp)⟩ ?_
  intro A1 W1 cost1 by1 la1 hF1 hW1 hS1
  have RD := Lib.hid hW1; have RS := Lib.hid hS1
  clear hW1 B0 hmk
  obtain ⟨ρ, rfl, hρ⟩ := hF1.open_
  simp only [List.forall_mem_cons] at hρ
  obtain ⟨r1, r2, r3, r7, r8, r9, r10, -⟩ := hρ
  simp only [lst, Nat.reduceAdd, r1, r2, r3, r7, r8, r9, r10]
  clear r1 r2 r3 r7 r8 r9 r10 hF1
  have hla := hS1.l
  clear hS1
  cases ho : (roundS (resArcs 0 (salsAt c f) M) (n + 1)).2 with
  | none =>
    rw [ho] at hla
    change la1 = -1 at hla
    subst hla
    have HO := Lib.hid (HNone.out ho)
    clear ho
    go_wp2
    go_ret
    exact ⟨RD.out.e, .inl ⟨rfl, HO.out⟩⟩
  | some v =>
    rw [ho] at hla
    change la1 = (v : Int) at hla
    subst hla
    obtain ⟨hv, hlt, u, t, hbu, ht0, htn, hbt, hmin, hFe, hne, hco⟩ := HSome.out v ho
    have HLT := Lib.hid hlt; have HBU := Lib.hid hbu; have HBT := Lib.hid hbt; have HMIN := Lib.hid hmin; have HFE2 := Lib.hid hFe; have HNE2 := Lib.hid hne; have HCO := Lib.hid hco
    have hv0 : decide ((v : Int) < 0) = false := decide_eq_false (by omega)
    clear ho hlt hbu hbt hmin hFe hne hco HSome HNone
    generalize (roundS (resArcs 0 (salsAt c f) M) (n + 1)) = so at RS HLT HBU HBT HMIN HFE2 HNE2 HCO
    go_upto_block 4 with (fail)
    refine back4_wp (c := c) (f := f) (σ := so.1) (n := n) (v := v) (u := u) (w0 := w) HR.out (by have := HL.out; omega) RS.out.c HBU.out HLT.out hn6 ⟨rfl, rfl, by simp [Act.eval]⟩ HH.out HS.out RD.out ?_
    intro A2' W2 hF2 hW2
    have RD2 := Lib.hid hW2
    clear hW2 RD
    obtain ⟨ρ, rfl, hρ⟩ := hF2.open_
    simp only [List.forall_mem_cons] at hρ
    obtain ⟨r3, r7, r9, r10, -⟩ := hρ
    simp only [lst, Nat.reduceAdd, r3, r7, r9, r10]
    clear r3 r7 r9 r10 hF2
    have b2c := RD2.out.b.c2
    have hbl := RD2.out.b.lt
    have hcl := RD2.out.c.lt
    have hyl := RD2.out.y.lt
    have hsz := RD2.out.e.size
    go_upto_block 6 with (fail)
    clear b2c
    refine ring6_wp (c := c) (f := f) (σ := so.1) (cost := cost1) (by' := by1) (gc := w.heap.size + 1) (go := W2.heap.size) (n := n) (N := n2) (u := u) (t := t) (w0 := w) HR.out (by have := HL.out; omega) hn2.out RS.out.c (fun j x hx => HLT.out (n + j) x (back_pre HBU.out hx)) hn6 ht0 htn HBT.out HMIN.out ⟨rfl, rfl, by simp [Act.eval]⟩ HH.out HS.out hsz (by omega) (by omega) (by omega)
      ⟨RD2.out.ext (Ext.al _ _), RowI.new _ _⟩ ?_
    intro A3 W3 hF3 hW3
    obtain ⟨ρ, rfl, hρ⟩ := hF3.open_
    simp only [List.forall_mem_cons] at hρ
    obtain ⟨r17, -⟩ := hρ
    simp only [lst, Nat.reduceAdd, r17]
    clear r17 hF3
    have RD3 := Lib.hid hW3
    clear hW3
    go_wp2
    go_ret
    have hN : M.length = n2 := by have := HML.out; have := hn2.out; omega
    have hz : List.zipWith (· + ·) M (walked (List.replicate n2 0) (chainArcs so.1.p t u)) = walked M (chainArcs so.1.p t u) := by rw [← hN]; exact plus_ring M _
    refine ⟨RD3.out.r.e, .inr ⟨W2.heap.size, walked (List.replicate n2 0) (chainArcs so.1.p t u), by rw [hN]; rfl, ?_, hsz, RD3.out.o, by rw [walked_len', hN, List.length_replicate], by rw [hz]; exact HFE2.out, by rw [hz]; exact HNE2.out, by rw [hz]; exact HCO.out⟩⟩
    · have := HCO.out
      cases hM : M with
      | nil =>
        rw [hM] at this
        have h1 : walked ([] : List Int) (chainArcs so.1.p t u) = [] := List.length_eq_zero_iff.1 (by rw [walked_len']; rfl)
        rw [h1] at this
        omega
      | cons _ _ => simp
end Go.Proofs.YtafdbgielmlihaaDoor
/- The reference's cheapest: rings are gone round until none is left. -/
namespace Go.Proofs.YtafdbgielmlihaaDoor
open Go.RowKit Go.Shelf Go.Lib
set_option maxRecDepth 100000
set_option linter.unusedSimpArgs false

/-- Numbers at the head of a block of their own. -/
def RowX (w : World) (g : Nat) (m : List Int) : Prop := ∃ cur, Blk w g 3 cur ∧ m.length ≤ cur.size ∧ ∀ (i : Nat) (x : Int), m[i]? = some x → cur[i]? = some (Value.int .i64 x)
section
variable {w w' : World} {g : Nat} {m : List Int}
theorem RowX.lt (h : RowX w g m) : g < w.heap.size := by obtain ⟨cur, h, -, -⟩ := h; exact Blk.lt h
theorem RowX.cell (h : RowX w g m) {i : Nat} {x : Int} (hx : m[i]? = some x) : w.cell? ⟨g, i, none⟩ = some (.int .i64 x) := by
  obtain ⟨cur, h, -, h2⟩ := h
  rw [Blk.cell h i]
  exact h2 i x hx
theorem RowX.frozen (h : RowX w g m) (i : Nat) : w.frozen? ⟨g, i, none⟩ = false := by obtain ⟨cur, h, -, -⟩ := h; exact Blk.frozen h i
theorem RowX.ext (h : RowX w g m) (e : Ext w w') : RowX w' g m := by obtain ⟨cur, h, h1⟩ := h; exact ⟨cur, Blk.ext h e, h1⟩
theorem RowX.set (h : RowX w g m) (i : Nat) (x : Int) : RowX (w.setCell ⟨g, i, none⟩ (.int .i64 x)) g (m.set i x) := by
  obtain ⟨cur, h, h1, h2⟩ := h
  refine ⟨_, Blk.set_ h i (.int .i64 x), by simpa using h1, fun j y hy => ?_⟩
  rw [List.getElem?_set] at hy
  rw [Array.getElem?_setIfInBounds]
  by_cases e : i = j
  · subst e
    rw [if_pos rfl] at hy ⊢
    split at hy
    · injection hy with hy
      rw [if_pos (by omega), hy]
    · cases hy
  · rw [if_neg e] at hy ⊢
    exact h2 j y hy
theorem RowX.sl (h : RowX w g m) {c : Nat} (hl : m.length ≤ c) (hc : c ≤ maxLen) : SlI w (.slice (some ⟨g, 0, none⟩) m.length c) m := by
  refine ⟨_, _, rfl, hl, hc, fun _ => ⟨g, 0, rfl, h.lt, fun k x hx j u hu => ?_⟩⟩
  have hj : j = 0 := by
    have := (List.getElem?_eq_some_iff.1 hu).1
    simp [encI] at this
    omega
  subst hj
  have e : u = .int .i64 x := by simpa [encI] using hu.symm
  rw [e, show 0 + k * 1 + 0 = k by omega]
  exact h.cell hx
end
theorem rowX_own {w : World} {base : Nat} {v : Value} {l : List Int} (h : Own encI 3 1 w base v l) : (v = .slice none 0 0 ∧ l = []) ∨ ∃ g c, v = .slice (some ⟨g, 0, none⟩) l.length c ∧ base ≤ g ∧ l.length ≤ c ∧ c ≤ maxLen ∧ RowX w g l := by
  rcases own_form h with h | ⟨g, cap, cur, h1, h2, h3, h4, h5, h6, h7⟩
  · exact .inl h
  · refine .inr ⟨g, cap, h1, h2, h4, h5, cur, h3, by omega, fun i x hx => ?_⟩
    have hi := (List.getElem?_eq_some_iff.1 hx).1
    have e := flatMap_at (enc := encI) (sz := 1) (fun _ => rfl) l i x hx 0 (.int .i64 x) rfl
    simp only [Nat.mul_one, Nat.add_zero] at e
    have e2 : (cur.toList.take l.length)[i]? = some (.int .i64 x) := by
      first | rw [h7]; exact e | (rw [show l.length = l.length * 1 by omega, h7]; exact e)
    rw [List.getElem?_take, if_pos hi] at e2
    rw [← Array.getElem?_toList]
    exact e2
/-- The moves that cheapest holds. -/
structure CpM (c : Chn) (f : Nat → Int) (w : World) (A : Option Addr) (N cp : Nat) (M : List Int) (W : World) : Prop where
  e : Ext w W
  b : Blk W w.heap.size 25 #[.slice A N cp]
/-- A list in new memory of its own. -/
def OwnM (B : Nat) (v : Value) (l : List Int) (W : World) : Prop := ∃ A cm gm, v = .slice A l.length cm ∧ l.length ≤ cm ∧ cm ≤ maxLen ∧ (0 < l.length → A = some ⟨gm, 0, none⟩ ∧ B ≤ gm ∧ RowX W gm l)
theorem OwnM.sl {B : Nat} {v : Value} {l : List Int} {W : World} (h : OwnM B v l W) : SlI W v l := by
  obtain ⟨A, cm, gm, rfl, h1, h2, h3⟩ := h
  by_cases h0 : 0 < l.length
  · obtain ⟨rfl, -, hx⟩ := h3 h0
    exact hx.sl h1 h2
  · exact ⟨A, cm, rfl, h1, h2, fun h => absurd h h0⟩
theorem OwnM.ext {B : Nat} {v : Value} {l : List Int} {W W' : World} (h : OwnM B v l W) (e : Ext W W') : OwnM B v l W' := by
  obtain ⟨A, cm, gm, h0, h1, h2, h3⟩ := h
  exact ⟨A, cm, gm, h0, h1, h2, fun h => ⟨(h3 h).1, (h3 h).2.1, (h3 h).2.2.ext e⟩⟩
theorem OwnM.base {B B' : Nat} {v : Value} {l : List Int} {W : World} (h : OwnM B v l W) (e : B' ≤ B) : OwnM B' v l W := by
  obtain ⟨A, cm, gm, h0, h1, h2, h3⟩ := h
  exact ⟨A, cm, gm, h0, h1, h2, fun h => ⟨(h3 h).1, Nat.le_trans e (h3 h).2.1, (h3 h).2.2⟩⟩
/-- What cheapest gives. -/
def CheapP (c : Chn) (f : Nat → Int) (w : World) (e : Ending) (w' : World) : Prop :=
  ∃ v m, e = .returned v ∧ Ext w w' ∧ OwnM w.heap.size v m w' ∧ Opt (salsAt c f) (balesOf c) m
set_option maxHeartbeats 4000000 in
theorem cheapest_any {c : Chn} {f : Nat → Int} {Ks : List Int} {hv sv kv : Value} {w : World}
    (hR : Right c) (hl : c.sales.length ≤ 11) (hKs : ∀ i y, Ks[i]? = some y → y = f i) (hKl : Ks.length = c.sales.length) (hKb : ∀ i, -20000000000000 ≤ f i ∧ f i ≤ 20000000000000)
    (hh : SlI w hv c.houses) (hs : SlL w sv c.sales) (hk : SlI w kv Ks) :
    Calls Tryd.prog 88 #[valC hv sv, kv] w (CheapP c f w) := by
  have HR := Lib.hid hR; have HH := Lib.hid hh; have HS := Lib.hid hs; have HK := Lib.hid hk; have HKS := Lib.hid hKs; have HKL := Lib.hid hKl; have HKB := Lib.hid hKb; have HL := Lib.hid hl
  obtain ⟨N, hN⟩ : ∃ N, N = c.sales.length := ⟨_, rfl⟩
  have HN := Lib.hid hN
  have B0 := Lib.hid (show Blk (w.alloc (.cells #[hv, sv] 25)) w.heap.size 25 #[hv, sv] from Blk.new _ _ _)
  have hN11 : N ≤ 11 := by omega
  clear hR hh hs hk hKs hKl hKb hl hN
  obtain ⟨A, n, cp, rfl, hn, hlc, hcm⟩ := HH.out.form
  obtain ⟨A2, n2, cp2, rfl, hn2, hlc2, hcm2⟩ := HS.out.form
  dsimp only [valC]
  go_enter Tryd.func88, Tryd.ntmps88
  go_wp2_with fail
  obtain ⟨w1, hw1⟩ : ∃ w1, w1 = w.alloc (.cells #[.slice A n cp, .slice A2 n2 cp2] 25) := ⟨_, rfl⟩
  have E1 := Lib.hid (show Ext w w1 from hw1 ▸ Ext.al _ _)
  have hw1s : w1.heap.size = w.heap.size + 1 := by rw [hw1]; simp
  rw [← hw1] at B0
  simp only [← hw1]
  clear hw1
  refine (f66_any c _ _ w1 (HH.out.ext E1.out) (HS.out.ext E1.out) (by have := HL.out; omega)).mono ?_
  rintro e W ⟨⟨v', rfl, hO⟩, hE⟩
  have HO := Lib.hid hO
  have EW := Lib.hid (E1.out.trans hE)
  have BW := Lib.hid (B0.out.ext hE)
  clear hO B0
  have hwW : w.heap.size < W.heap.size := BW.out.lt
  have hsz1 := hE.size
  clear hE
  -- the moves' form
  obtain ⟨Am, cm, gm, hv', hcm, hcN, hgm, hsl, hrx⟩ : ∃ Am cm gm, v' = .slice Am N cm ∧ cm ≤ maxLen ∧ N ≤ cm ∧ (0 < N → w.heap.size < gm) ∧ SlI W v' (balesOf c) ∧ (0 < N → Am = some ⟨gm, 0, none⟩ ∧ RowX W gm (balesOf c)) := by
    have hsl : SlI W v' (balesOf c) := Own.sl (fun _ => rfl) HO.out
    have hbl := bales_len c
    rcases rowX_own HO.out with ⟨h1, h2⟩ | ⟨g, c9, h1, h2, h3, h4, h5⟩
    · rw [h2] at hbl
      have h0 : N = 0 := by rw [HN.out, ← hbl]; rfl
      exact ⟨none, 0, 0, by rw [h1, h0], by decide, by omega, by omega, hsl, by omega⟩
    · rw [hbl, ← HN.out] at h1
      exact ⟨_, c9, g, h1, h4, by have := HN.out; omega, fun _ => by omega, hsl, fun _ => ⟨rfl, h5⟩⟩
  subst hv'
  have HSL := Lib.hid hsl; have HRX := Lib.hid hrx; have HGM := Lib.hid hgm
  clear hsl hrx hgm HO
  go_wp2
  refine wp_loop_ghost_k (fun g A' W => ∃ (M : List Int), (cost (salsAt c f) M - floorC (salsAt c f)).toNat ≤ g ∧ Fr 34 [(1, kv), (2, .pointer (some ⟨w.heap.size, 0, none⟩)), (5, .slice Am N cm)] [] A' ∧ Ext w W ∧ Blk W w.heap.size 25 #[.slice A n cp, .slice A2 n2 cp2] ∧
    SlI W (.slice Am N cm) M ∧ (0 < N → Am = some ⟨gm, 0, none⟩ ∧ RowX W gm M) ∧ Feas (salsAt c f) M ∧ (∀ v, net (salsAt c f) M v = net (salsAt c f) (balesOf c) v)) (cost (salsAt c f) (balesOf c) - floorC (salsAt c f)).toNat ?_ ?_
  · exact ⟨balesOf c, Nat.le_refl _, ⟨rfl, rfl, by simp [Act.eval]⟩, EW.out, BW.out, HSL.out, HRX.out, by rw [← at_caps c f]; exact feas_caps _ (fun x hx => (at_cap HR.out f x hx).1), fun _ => rfl⟩
  · rintro g A' W1 ⟨M, hg, hF, hE, hB, hSL, hRX, hFe, hne⟩ J K' hJ hK
    have HJ := Lib.hid hJ; have EW1 := Lib.hid hE; have BW1 := Lib.hid hB; have HSL1 := Lib.hid hSL; have HRX1 := Lib.hid hRX; have HFE := Lib.hid hFe; have HNE := Lib.hid hne; have HG := Lib.hid hg
    obtain ⟨ρ, rfl, hρ⟩ := hF.open_
    simp only [List.forall_mem_cons] at hρ
    obtain ⟨r1, r2, r5, -⟩ := hρ
    simp only [lst, Nat.reduceAdd, r1, r2, r5]
    clear r1 r2 r5 hF hE hB hSL hRX hFe hne hJ hg EW BW HSL HRX
    obtain ⟨b0, b1, bf, bl⟩ := BW1.out.c2
    have hML : M.length = N := by rw [feas_len HFE.out, at_len]; exact HN.out.symm
    go_wp2_with fail
    refine (round_any (c := c) (f := f) (Ks := Ks) (M := M) HR.out HL.out HKS.out HKL.out HKB.out HFE.out HNE.out (HH.out.ext EW1.out) (HS.out.ext EW1.out) HSL1.out (HK.out.ext EW1.out)).mono ?_
    rintro e W2 ⟨hE2, ⟨rfl, hO⟩ | ⟨go, z, rfl, hN0, hgo, hRo, hzl, hF2, hn2', hc2⟩⟩
    · have HO := Lib.hid hO; have EW2 := Lib.hid (EW1.out.trans hE2); have HSL2 := Lib.hid (show OwnM w.heap.size (.slice Am N cm) M W2 from ⟨Am, cm, gm, by rw [hML], by rw [hML]; exact hcN, hcm, fun h => ⟨(HRX1.out (by omega)).1, Nat.le_of_lt (HGM.out (by omega)), (HRX1.out (by omega)).2.ext hE2⟩⟩)
      clear hO hE2 b0 b1 bf bl
      go_wp2
      go_ret
      exact ⟨_, M, rfl, EW2.out, HSL2.out, HO.out⟩
    · rw [hML] at hzl hN0 ⊢
      have HRO := Lib.hid hRo; have HZL := Lib.hid hzl; have HF2 := Lib.hid hF2; have HN2 := Lib.hid hn2'; have HC2 := Lib.hid hc2; have EW2 := Lib.hid (EW1.out.trans hE2); have BW2 := Lib.hid (BW1.out.ext hE2)
      obtain ⟨hAm, hrx⟩ := HRX1.out hN0
      subst hAm
      have RX2 := Lib.hid (hrx.ext hE2)
      have hgl := hrx.lt
      have hn0 : ¬ N = 0 := by omega
      have hn0z : ¬ (N : Int) = 0 := by omega
      have hgw := HGM.out hN0
      have hgogm : go ≠ gm := by omega
      clear hRo hzl hF2 hn2' hc2 hE2 b0 b1 bf bl hrx HSL1 HRX1
      have HBD := Lib.hid (fun (i : Nat) (x : Int) (hx : (List.zipWith (· + ·) M z)[i]? = some x) => (show 0 ≤ x ∧ x ≤ 9 by
        have hi := (List.getElem?_eq_some_iff.1 hx).1
        rw [List.length_zipWith, hML, HZL.out, Nat.min_self] at hi
        obtain ⟨X, hX⟩ : ∃ X, (salsAt c f)[i]? = some X := ⟨_, List.getElem?_eq_getElem (by rw [at_len, ← HN.out]; exact hi)⟩
        have h1 := feas_get HF2.out i X x hX hx
        have h2 := at_cap HR.out f X (List.mem_of_getElem? hX)
        omega))
      go_wp2
      refine wp_loop_ghost_k (fun g A' W => ∃ (k : Nat), k ≤ N ∧ N - k ≤ g ∧ Fr 34 [(1, kv), (2, .pointer (some ⟨w.heap.size, 0, none⟩)), (5, .slice (some ⟨gm, 0, none⟩) N cm), (6, .slice (some ⟨go, 0, none⟩) N N), (7, .int .i64 (k : Int))] [] A' ∧ Ext w W ∧ Blk W w.heap.size 25 #[.slice A n cp, .slice A2 n2 cp2] ∧
        RowI W go z ∧ RowX W gm (addTo M z k)) N ?_ ?_
      · exact ⟨0, by omega, by omega, ⟨rfl, rfl, by simp [Act.eval]⟩, EW2.out, BW2.out, HRO.out, by rw [addTo_zero]; exact RX2.out⟩
      · rintro g2 A'2 W3 ⟨k, hk, hg2, hF, hE, hB, hRo, hRx⟩ J2 K2 hJ2 hK2
        have HJ2 := Lib.hid hJ2; have EW3 := Lib.hid hE; have BW3 := Lib.hid hB; have RO3 := Lib.hid hRo; have RX3 := Lib.hid hRx
        obtain ⟨ρ, rfl, hρ⟩ := hF.open_
        simp only [List.forall_mem_cons] at hρ
        obtain ⟨r1, r2, r5, r6, r7, -⟩ := hρ
        simp only [lst, Nat.reduceAdd, r1, r2, r5, r6, r7]
        clear r1 r2 r5 r6 r7 hF hE hB hRo hRx hJ2 EW2 BW2 HRO RX2
        by_cases hkN : k < N
        · have hkz : (k : Int) < (N : Int) := by omega
          obtain ⟨x, hx⟩ : ∃ x, M[k]? = some x := ⟨_, List.getElem?_eq_getElem (by omega)⟩
          obtain ⟨y, hy⟩ : ∃ y, z[k]? = some y := ⟨_, List.getElem?_eq_getElem (by have := HZL.out; omega)⟩
          have hMz : M.length = z.length := by have := HZL.out; omega
          have hbd := HBD.out k (x + y) (by rw [List.getElem?_zipWith, hx, hy])
          have hw1 : IntKind.i64.wrap (x + y) = x + y := by rw [IntKind.wrap_i64]; omega
          have HST := Lib.hid (addTo_succ hMz hx hy)
          have HX := Lib.hid (addTo_get (k := k) hMz hx); have HY := Lib.hid hy
          clear hx hy
          obtain ⟨V, hV⟩ : ∃ V, V = W3 := ⟨_, rfl⟩
          subst hV
          have m0 := fun W (h : Ext V W) => (RX3.out.ext h).cell HX.out
          have m1 := fun W (h : Ext V W) => (RO3.out.ext h).cell HY.out
          go_wp2
          refine wp_region_tame_cut (fun W => Ext V W) (fun W W' => Ext W W') (by kernel_rfl) 34 rfl _ rfl (by decide +kernel) (by decide +kernel) (by decide +kernel) rfl (Ext.refl _).drew ?_
          simp only [List.dropLast]
          repeat (apply tame_q rfl; (intro ρ W hC hr hD; (obtain ⟨hrc, hrg, hrf, hrs⟩ := hr); (simp [go_sem] at hD); go_simp; first | exact ⟨⟨hC, Ext.refl _⟩, rfl⟩ | exact ⟨⟨hC, RS.refl _⟩, rfl⟩ | exact rfl); simp only [List.nil_append, List.cons_append])
          refine tame_end_put rfl rfl (fun ρ W hC hr hF => ?_)
          simp [go_sem] at hF
          simp only [putF, hF, List.set_cons_succ, List.set_cons_zero]
          clear hF hr
          have E4 := Lib.hid hC
          have RX4 := Lib.hid (RX3.out.ext hC); have RO4 := Lib.hid (RO3.out.ext hC); have BW4 := Lib.hid (BW3.out.ext hC)
          have EW4 := Lib.hid (EW3.out.trans hC)
          clear hC m0 m1
          have x0 := RX4.out.cell HX.out
          have xf := RX4.out.frozen
          have xl := RX4.out.lt
          go_wp2
          exact Handed.intro (N - (k + 1)) (by omega) (HJ2.out _ _ _ ⟨k + 1, by omega, Nat.le_refl _, ⟨rfl, rfl, by simp [Act.eval]⟩, EW4.out.setCell (by dsimp only; omega) _, BW4.out.far (by dsimp only; omega) _, RO4.out.far (by dsimp only; omega) _, by rw [HST.out]; exact RX4.out.set _ _⟩)
        · have HE := Lib.hid (show k = N by omega)
          go_wp2
          have hz : addTo M z k = List.zipWith (· + ·) M z := addTo_all (by have := HE.out; omega) (by have := HE.out; have := HZL.out; omega)
          have hrx := RX3.out
          rw [hz] at hrx
          have hzl : (List.zipWith (· + ·) M z).length = N := by rw [List.length_zipWith, hML, HZL.out, Nat.min_self]
          have hfl := cost_floor _ _ HF2.out
          refine Handed.intro (cost (salsAt c f) (List.zipWith (· + ·) M z) - floorC (salsAt c f)).toNat (by have := HC2.out; have := HG.out; omega) (HJ.out _ _ _ ⟨List.zipWith (· + ·) M z, Nat.le_refl _, ⟨rfl, rfl, by simp [Act.eval]⟩, EW3.out, BW3.out, ?_, fun _ => ⟨by trivial, hrx⟩, HF2.out, fun v => (HN2.out v).trans (HNE.out v)⟩)
          have := hrx.sl (c := cm) (by omega) hcm
          rwa [hzl] at this
end Go.Proofs.YtafdbgielmlihaaDoor
