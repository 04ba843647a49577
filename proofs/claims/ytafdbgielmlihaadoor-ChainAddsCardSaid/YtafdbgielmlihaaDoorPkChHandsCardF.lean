/- The program's Hands, part two: all bales of a house. -/
import Derived.Test.YtafdbgielmlihaaDoorPkChHandsCardC
import Derived.Test.YtafdbgielmlihaaDoorPkChHandsCardE
import Derived.Test.YtafdbgielmlihaaDoorPkChHandsCardB
import Derived.Test.YtafdbgielmlihaaDoorPkChHandsCardD
namespace Go.Proofs.YtafdbgielmlihaaDoor
open Go.RowKit Go.Shelf Go.Lib
set_option maxRecDepth 100000
set_option linter.unusedSimpArgs false

/-- Some blocks may turn. -/
structure OffB (S : Nat → Prop) (A B : World) : Prop where
  os : B.os = A.os
  tape : B.tape = A.tape
  output : B.output = A.output
  size : A.heap.size ≤ B.heap.size
  block : ∀ i, i < A.heap.size → ¬ S i → B.heap[i]? = A.heap[i]?
theorem OffB.refl (S : Nat → Prop) (A : World) : OffB S A A := ⟨rfl, rfl, rfl, Nat.le_refl _, fun _ _ _ => rfl⟩
theorem OffB.one {S : Nat → Prop} {g : Nat} {A B C : World} (h : OffB S A B) (k : B.grownBy C (some g)) (hg : S g) : OffB S A C :=
  ⟨k.os.trans h.os, k.tape.trans h.tape, k.output.trans h.output, Nat.le_trans h.size k.size, fun i hi hs => (k.block i (Nat.lt_of_lt_of_le hi h.size) (by
    intro e; injection e with e; exact hs (by rw [e]; exact hg))).trans (h.block i hi hs)⟩
theorem OffB.ext {S : Nat → Prop} {A B C : World} (h : OffB S A B) (k : Ext B C) : OffB S A C :=
  ⟨k.os.trans h.os, k.tape.trans h.tape, k.output.trans h.output, Nat.le_trans h.size k.size, fun i hi hs => (k.block i (Nat.lt_of_lt_of_le hi h.size)).trans (h.block i hi hs)⟩
theorem ext_off {S : Nat → Prop} {w A B : World} (h : Ext w A) (k : OffB S A B) (hs : ∀ i, i < w.heap.size → ¬ S i) : Ext w B where
  os := k.os.trans h.os
  tape := k.tape.trans h.tape
  output := k.output.trans h.output
  size := Nat.le_trans h.size k.size
  block := fun i hi => (k.block i (Nat.lt_of_lt_of_le hi h.size) (hs i hi)).trans (h.block i hi)
section
variable {W W' : World} {q : Nat}
def NoC (W : World) (q : Nat) : Prop := ¬ ∃ c t f, W.heap[q]? = some (.cells c t f)
theorem Blk.noC {g : Nat} {t : TypeId} {cs : Array Value} (h : Blk W g t cs) (k : NoC W q) : g ≠ q := fun e => k (by subst e; exact ⟨_, _, _, h⟩)
theorem Blk.offC {g : Nat} {t : TypeId} {cs : Array Value} (h : Blk W g t cs) (k : W.grownBy W' (some q)) (hq : NoC W q) : Blk W' g t cs := h.grown k (ne_some (h.noC hq))
theorem Sl.offC {α : Type} {enc : α → List Value} {sz : Nat} {a : Option Addr} {n c : Nat} {l : List α} (h : Sl enc sz W (.slice a n c) l) (k : W.grownBy W' (some q)) (hq : NoC W q) : Sl enc sz W' (.slice a n c) l := by
  obtain ⟨a', c', hv, hl, hc, hcell⟩ := h
  injection hv with e1 e2 e3
  subst e1 e2 e3
  refine ⟨_, _, rfl, hl, hc, fun h0 => ?_⟩
  obtain ⟨b, off, hA, hb, hcell⟩ := hcell h0
  refine ⟨b, off, hA, Nat.lt_of_lt_of_le hb k.size, fun i x hi j u hu => ?_⟩
  have h1 := hcell i x hi j u hu
  obtain ⟨h2, h3⟩ := is_cells h1
  exact (World.cell?_of_block (a := ⟨b, _, none⟩) (k.block b h2 (ne_some fun e => hq (by subst e; exact h3)))).trans h1
theorem own_offC {α : Type} {enc : α → List Value} {e : TypeId} {sz base : Nat} {v : Value} {l : List α} (h : Own enc e sz W base v l) (k : W.grownBy W' (some q)) (hq : NoC W q) : Own enc e sz W' base v l := by
  refine ⟨h.1, ?_⟩
  rcases h.2 with h2 | ⟨g, cap, cur, e1, hb, hg, h5⟩
  · exact .inl h2
  · exact .inr ⟨g, cap, cur, e1, hb, Blk.offC hg k hq, h5⟩
theorem MapI.noC {m n : Nat} {g : Int → Int} (h : MapI W m n g) : NoC W m := h.noCells
theorem MapI.grown {m n r : Nat} {g : Int → Int} (h : MapI W m n g) (k : W.grownBy W' (some r)) (hr : m ≠ r) : MapI W' m n g := h.at_ (k.block m h.lt (ne_some hr))
end
theorem HopW.offC {c : Chn} {b1 b4 b9 mb gm n2 cp2 N2 M2 : Nat} {A2 : Option Addr} {v1 hv' sv' cv' : Value} {m : List Int} {W W' : World} {q : Nat} (h : HopW c b1 b4 b9 mb gm n2 cp2 N2 M2 A2 v1 hv' sv' cv' m W) (k : W.grownBy W' (some q)) (hq : NoC W q) : HopW c b1 b4 b9 mb gm n2 cp2 N2 M2 A2 v1 hv' sv' cv' m W' :=
  ⟨h.ch.offC k hq, h.mp.offC k hq, h.mkt.offC k hq, h.fn.offC k hq, Blk.offC h.row k hq, h.sl.offC k hq, h.x1, h.x4, h.xm, h.x9, h.xs⟩

set_option maxHeartbeats 8000000 in
theorem bales4_wp {c : Chn} {m0 gets : List Int} {k K : Nat} {h0 g0 : Int} {b1 b4 b9 mb gm n2 cp2 N2 M2 bm bo nn : Nat} {A2 : Option Addr} {v1 hv' sv' cv' : Value} {f0 : Int → Int} {w : World} {a0 : Act} {v10 v51 v52 v53 : Value} {Q : Exit → Act → World → Prop}
    (hR : Right c) (hl : c.sales.length ≤ 1000) (hN : N2 = c.sales.length) (hh0 : c.houses[k]? = some h0) (hg0 : gets[k]? = some g0) (hK : K = (-g0).toNat) (hKb : K ≤ 1000) (hm : Mvs c m0)
    (hF : Fr 103 [(1, .pointer (some ⟨b1, 0, none⟩)), (4, .pointer (some ⟨b4, 0, none⟩)), (6, .map (some bo)), (9, .pointer (some ⟨b9, 0, none⟩)), (10, v10), (12, .int .i64 h0), (13, .map (some bm)), (51, v51), (52, v52), (53, v53)] [] a0)
    (hW : HopW c b1 b4 b9 mb gm n2 cp2 N2 M2 A2 v1 hv' sv' cv' m0 w) (hM : MapI w bm 0 fun _ => 0) (hO : MapI w bo nn f0) (hOA : OweAt c gets k 0 f0) (hnn : nn ≤ 1000000) (xb : bo ≠ bm)
    (hQ : ∀ A' W' f, Fr 103 [(1, .pointer (some ⟨b1, 0, none⟩)), (4, .pointer (some ⟨b4, 0, none⟩)), (6, .map (some bo)), (9, .pointer (some ⟨b9, 0, none⟩)), (10, v10), (12, .int .i64 h0), (13, .map (some bm)), (51, v51), (52, v52), (53, v53)] [] A' →
      OffB (fun i => i = gm ∨ i = bm ∨ i = bo) w W' → HopW c b1 b4 b9 mb gm n2 cp2 N2 M2 A2 v1 hv' sv' cv' (cntTo c h0 m0 K).1 W' → MapI W' bm K (cntTo c h0 m0 K).2 → MapI W' bo (nn + K) f → OweAt c gets (k + 1) 0 f → Q .normal A' W') :
    (subC [1, 1, 1, 1, 1, 1, 1, 1, 0, 1, 2, 3, 1, 1, 0, 2, 1, 1, 0] (Tryd.f30.body.getD .skip)).wp Tryd.prog Q a0 w := by
  have HR := Lib.hid hR; have HW := Lib.hid hW; have HMM := Lib.hid hM; have HOO := Lib.hid hO; have HOA := Lib.hid hOA; have HQ := Lib.hid hQ; have HN := Lib.hid hN; have HM := Lib.hid hm; have HH0 := Lib.hid hh0; have HG0 := Lib.hid hg0; have HK := Lib.hid hK
  have h0b : In64 h0 := by have := rising_gt hR.hr h0 (List.mem_of_getElem? hh0); unfold In64; omega
  have HHM := Lib.hid (List.mem_of_getElem? hh0)
  clear hR hW hM hO hOA hQ hN hm hh0 hg0 hK
  delta Tryd.f30
  simp only [subC, Option.getD_some]
  obtain ⟨ρ, rfl, hρ⟩ := hF.open_
  simp only [List.forall_mem_cons] at hρ
  obtain ⟨r1, r4, r6, r9, r10, r12, r13, r51, r52, r53, -⟩ := hρ
  simp only [lst, Nat.reduceAdd, r1, r4, r6, r9, r10, r12, r13, r51, r52, r53]
  clear r1 r4 r6 r9 r10 r12 r13 r51 r52 r53 hF
  go_wp2
  refine wp_loop_ghost_k (fun g A' W => ∃ (j : Nat) (f : Int → Int), j ≤ K ∧ K - j ≤ g ∧ Fr 103 [(1, .pointer (some ⟨b1, 0, none⟩)), (4, .pointer (some ⟨b4, 0, none⟩)), (6, .map (some bo)), (9, .pointer (some ⟨b9, 0, none⟩)), (10, v10), (12, .int .i64 h0), (13, .map (some bm)), (51, v51), (52, v52), (53, v53)] [] A' ∧
    OffB (fun i => i = gm ∨ i = bm ∨ i = bo) w W ∧ HopW c b1 b4 b9 mb gm n2 cp2 N2 M2 A2 v1 hv' sv' cv' (cntTo c h0 m0 j).1 W ∧ MapI W bm j (cntTo c h0 m0 j).2 ∧ MapI W bo (nn + j) f ∧ OweAt c gets k j f) K ?_ ?_
  · exact ⟨0, f0, by omega, by omega, ⟨rfl, rfl, by simp [Act.eval]⟩, OffB.refl _ _, HW.out, HMM.out, HOO.out, HOA.out⟩
  · rintro g A' W ⟨j, f, hj, hg, hF, hOff, hW, hM, hO, hOA⟩ J K' hJ hK'
    have HJ := Lib.hid hJ; have HOF := Lib.hid hOff; have HW1 := Lib.hid hW; have HM1 := Lib.hid hM; have HO1 := Lib.hid hO; have HOA1 := Lib.hid hOA
    obtain ⟨ρ, rfl, hρ⟩ := hF.open_
    simp only [List.forall_mem_cons] at hρ
    obtain ⟨r1, r4, r6, r9, r10, r12, r13, r51, r52, r53, -⟩ := hρ
    simp only [lst, Nat.reduceAdd, r1, r4, r6, r9, r10, r12, r13, r51, r52, r53]
    clear r1 r4 r6 r9 r10 r12 r13 r51 r52 r53 hF hOff hW hM hO hOA hJ HW HMM HOO HOA
    have hf0 : f h0 = (K : Int) - j := by
      have := HOA1.out k h0 g0 (Nat.le_refl _) HH0.out HG0.out
      rw [if_pos rfl, ← HK.out] at this
      exact this
    have l0 := HO1.out.look h0b
    rw [hf0] at l0
    by_cases hjK : j < K
    · have hz : 0 < (K : Int) - j := by omega
      obtain ⟨hc1, -⟩ := cnt_row HR.out HHM.out HM.out j
      obtain ⟨ho1, -, -⟩ := handRow_ok HR.out HHM.out HM.out (B := 0) (row := List.replicate c.houses.length 0) (by simp) (rep_zero _) j
      rw [← hc1] at ho1
      have HMJ := Lib.hid ho1
      have hfo := (follow_ok HR.out ho1 HHM.out).2
      have hrb := rising_gt HR.out.hr _ hfo
      have hkb : In64 (follow c (cntTo c h0 m0 j).1 h0).2 := by unfold In64; omega
      have hcb := cnt_bd c h0 m0 j (follow c (cntTo c h0 m0 j).1 h0).2
      obtain ⟨cc, hcc⟩ : ∃ cc, (cntTo c h0 m0 j).2 (follow c (cntTo c h0 m0 j).1 h0).2 = cc := ⟨_, rfl⟩
      rw [hcc] at hcb
      have HCC := Lib.hid hcc
      obtain ⟨q0, qf, ql⟩ := HW1.out.fn.c1
      have NGM := Lib.hid (Blk.noC HW1.out.row HM1.out.noC); have NGO := Lib.hid (Blk.noC HW1.out.row HO1.out.noC)
      clear hc1 ho1 hfo hrb hcc
      go_wp2_with fail
      refine (hop_any c hl HN.out (mu (cntTo c h0 m0 j).1) (cntTo c h0 m0 j).1 h0 W (Nat.le_refl _) HMJ.out HW1.out).mono ?_
      rintro e W1 ⟨rfl, hG1, hR1⟩
      have hMa := HM1.out.grown hG1 (Ne.symm NGM.out)
      have hOa := HO1.out.grown hG1 (Ne.symm NGO.out)
      have hWa := HW1.out.grown hG1 hR1
      have l1 := hMa.look hkb
      rw [HCC.out] at l1
      have hw1 : IntKind.i64.wrap (cc + 1) = cc + 1 := by rw [IntKind.wrap_i64]; omega
      obtain ⟨W2, s2, hMb, hG2⟩ := hMa.store hkb (by omega) (v := cc + 1) (by unfold In64; omega)
      have hOb := hOa.grown hG2 xb
      have hWb := hWa.offC hG2 hMa.noC
      have l2 := hOb.look h0b
      rw [hf0] at l2
      obtain ⟨r, hr⟩ : ∃ r : Int, (K : Int) - j - 1 = r := ⟨_, rfl⟩
      have hw2 : IntKind.i64.wrap ((K : Int) - j - 1) = r := by rw [IntKind.wrap_i64]; omega
      obtain ⟨W3, s3, hOc, hG3⟩ := hOb.store h0b (by omega) (v := r) (by unfold In64; omega)
      have hMc := hMb.grown hG3 (Ne.symm xb)
      have hWc := hWb.offC hG3 hOb.noC
      have l3 := hOc.look h0b
      rw [if_pos rfl] at l3
      have HOFc := Lib.hid (((HOF.out.one hG1 (.inl rfl)).one hG2 (.inr (.inl rfl))).one hG3 (.inr (.inr rfl)))
      have HMc := Lib.hid hMc; have HOc := Lib.hid hOc; have HWc := Lib.hid hWc
      have HST := Lib.hid (owe_step HR.out HOA1.out HH0.out (g' := fun x => if x = h0 then r else f x) (by simp; omega) (fun y hy => by simp [hy]))
      have HCN : (cntTo c h0 m0 (j + 1)).2 = fun x => if x = (follow c (cntTo c h0 m0 j).1 h0).2 then cc + 1 else (cntTo c h0 m0 j).2 x := by
        rw [cntTo]
        funext x
        dsimp only
        split
        · rename_i e; rw [e, HCC.out]
        · rfl
      have HCN2 := Lib.hid HCN
      clear hMa hOa hWa hMb hOb hWb hMc hOc hWc hG1 hG2 hG3 hR1 q0 qf ql HCN
      have HRR := Lib.hid hr
      clear hr
      by_cases hlast : r = 0
      · subst hlast
        obtain ⟨W4, s4, hOd, hG4⟩ := HOc.out.drop h0b 0
        have HOFd := Lib.hid (HOFc.out.one hG4 (.inr (.inr rfl))); have HMd := Lib.hid (HMc.out.grown hG4 (Ne.symm xb)); have HOd := Lib.hid hOd; have HWd := Lib.hid (HWc.out.offC hG4 HOc.out.noC)
        have HST2 := Lib.hid (owe_step HR.out HOA1.out HH0.out (g' := fun x => if x = h0 then 0 else if x = h0 then 0 else f x) (by have := HRR.out; simp; omega) (fun y hy => by simp [hy]))
        clear hOd hG4
        go_wp2
        exact Handed.intro (K - (j + 1)) (by omega) (HJ.out _ _ _ ⟨j + 1, _, by omega, Nat.le_refl _, ⟨rfl, rfl, by simp [Act.eval]⟩, HOFd.out, HWd.out, by rw [HCN2.out]; exact HMd.out, HOd.out, HST2.out⟩)
      · have hl1 : (r == 0) = false := by simpa using hlast
        go_wp2
        exact Handed.intro (K - (j + 1)) (by omega) (HJ.out _ _ _ ⟨j + 1, _, by omega, Nat.le_refl _, ⟨rfl, rfl, by simp [Act.eval]⟩, HOFc.out, HWc.out, by rw [HCN2.out]; exact HMc.out, HOc.out, HST.out⟩)
    · have hz : ¬ 0 < (K : Int) - j := by omega
      have HE := Lib.hid (show j = K by omega)
      go_wp2
      have h1 := HW1.out; have h2 := HM1.out; have h3 := HO1.out
      rw [HE.out] at h1 h2 h3
      exact HQ.out _ _ _ ⟨rfl, rfl, by simp [Act.eval]⟩ HOF.out h1 h2 h3 (owe_next HOA1.out)
end Go.Proofs.YtafdbgielmlihaaDoor
/- The program's Hands, part three: what a house hands out is put out. -/
namespace Go.Proofs.YtafdbgielmlihaaDoor
open Go.RowKit Go.Shelf Go.Lib
set_option maxRecDepth 100000
set_option linter.unusedSimpArgs false

theorem und99 : Tryd.prog.underlying 99 = some (.struct (Tryd.prog.fieldsOf 99)) := by kernel_rfl
theorem held99 : Tryd.prog.stoodInHeld 99 = false := by kernel_rfl
theorem neq99h (a b x : Int) (w : World) : (binOp .neq 99 (.agg #[.int .i64 a, .int .i64 b, .int .i64 x]) (.agg #[.int .i64 a, .int .i64 b, .int .i64 0])).run Tryd.prog w = .ok (.bool (!(x == 0))) w := by
  have u3 := Tryd.underlying3
  have a3 := Tryd.isAgg3
  have z3 := Tryd.sizeOf3
  rw [run_neq_struct, show (10000 : Nat) = 9999 + 1 from rfl, run_equalIn_agg w 9999 99 _ _ und99 held99]
  simp only [Program.fieldsOf, Tryd.underlying99]
  go_simp
  by_cases h : x = 0
  · subst h; rfl
  · rw [if_neg h, show (x == 0) = false by simpa using h]; rfl
theorem own_neC {α : Type} {enc : α → List Value} {sz base q : Nat} {e : TypeId} {W : World} {v : Value} {l : List α} (h : Own enc e sz W base v l) (hq : NoC W q) : some q ≠ v.ownBlock := by
  rcases h.2 with ⟨rfl, -⟩ | ⟨g, cap, cur, e1, hb, hg, h5⟩
  · simp [Value.ownBlock]
  · subst e1
    intro hk
    have : q = g := by simpa [Value.ownBlock] using hk
    exact hq ⟨_, _, _, this ▸ hg⟩
theorem MapI.alloc {W : World} {m n : Nat} {g : Int → Int} (h : MapI W m n g) (o : Obj) : MapI (W.alloc o) m n g := h.ext (Ext.al _ _)
set_option maxHeartbeats 4000000 in
theorem outp6_wp {c : Chn} {row : List Int} {cnt : Int → Int} {out0 : List Hnd} {h0 : Int} {b1 bm K B : Nat} {A : Option Addr} {n cp : Nat} {v2 : Value} {A0 : Option Addr} {n0 d0 : Nat} {w : World} {a0 : Act} {v4 v6 v9 v51 v52 v53 : Value} {Q : Exit → Act → World → Prop}
    (hR : Right c) (hn : n = c.houses.length) (hn6 : n ≤ 6) (hol : out0.length ≤ 1000) (hBw : B ≤ w.heap.size) (hb3 : b1 < B) (hcb : ∀ t, 0 ≤ cnt t) (hrow : ∀ (i : Nat) (t : Int), c.houses[i]? = some t → row[i]? = some (cnt t))
    (hF : Fr 103 [(1, .pointer (some ⟨b1, 0, none⟩)), (4, v4), (6, v6), (9, v9), (10, .slice A0 n0 d0), (12, .int .i64 h0), (13, .map (some bm)), (51, v51), (52, v52), (53, v53), (79, .slice A n cp), (80, .int .i64 (n : Int)), (81, .int .i64 0)] [] a0)
    (hB : Blk w b1 25 #[.slice A n cp, v2]) (hh : SlI w (.slice A n cp) c.houses) (hhB : 0 < c.houses.length → ∀ b o, A = some ⟨b, o, none⟩ → b < B) (hM : MapI w bm K cnt) (hO : Own encHd 99 3 w B (.slice A0 n0 d0) out0)
    (hQ : ∀ A' W' A1 n1 d1, Fr 103 [(1, .pointer (some ⟨b1, 0, none⟩)), (4, v4), (6, v6), (9, v9), (10, .slice A1 n1 d1), (51, v51), (52, v52), (53, v53)] [] A' →
      Below B w W' → Own encHd 99 3 W' B (.slice A1 n1 d1) (out0 ++ outRow c h0 row) → Q .normal A' W') :
    (subC [1, 1, 1, 1, 1, 1, 1, 1, 0, 1, 2, 3, 1, 1, 0, 2, 1, 1, 1, 1] (Tryd.f30.body.getD .skip)).wp Tryd.prog Q a0 w := by
  have HB := Lib.hid hB; have HH := Lib.hid hh; have HHB := Lib.hid hhB; have HM := Lib.hid hM; have HO := Lib.hid hO; have HQ := Lib.hid hQ; have HN := Lib.hid hn; have HR := Lib.hid hR; have HCB := Lib.hid hcb; have HROW := Lib.hid hrow
  clear hB hh hhB hM hO hQ hn hR hcb hrow
  have nq := neq99h
  delta Tryd.f30
  simp only [subC, Option.getD_some]
  obtain ⟨ρ, rfl, hρ⟩ := hF.open_
  simp only [List.forall_mem_cons] at hρ
  obtain ⟨r1, r4, r6, r9, r10, r12, r13, r51, r52, r53, r79, r80, r81, -⟩ := hρ
  simp only [lst, Nat.reduceAdd, r1, r4, r6, r9, r10, r12, r13, r51, r52, r53, r79, r80, r81]
  clear r1 r4 r6 r9 r10 r12 r13 r51 r52 r53 r79 r80 r81 hF
  go_wp2
  refine wp_loop_ghost_k (fun g A' W => ∃ (k : Nat) (A1 : Option Addr) (n1 d1 : Nat), k ≤ n ∧ n - k ≤ g ∧ Fr 103 [(1, .pointer (some ⟨b1, 0, none⟩)), (4, v4), (6, v6), (9, v9), (10, .slice A1 n1 d1), (12, .int .i64 h0), (13, .map (some bm)), (51, v51), (52, v52), (53, v53), (79, .slice A n cp), (80, .int .i64 (n : Int)), (81, .int .i64 (k : Int))] [] A' ∧
    Below B w W ∧ MapI W bm K cnt ∧ Own encHd 99 3 W B (.slice A1 n1 d1) (out0 ++ outTo c h0 row k)) n ?_ ?_
  · exact ⟨0, A0, n0, d0, by omega, by omega, ⟨rfl, rfl, by simp [Act.eval]⟩, Below.refl _ _, HM.out, by simpa [outTo] using HO.out⟩
  · rintro g A' W ⟨k, A1, n1, d1, hk, hg, hF, hE, hM, hO⟩ J K' hJ hK
    have HJ := Lib.hid hJ; have EW := Lib.hid hE; have MW := Lib.hid hM; have OW := Lib.hid hO
    obtain ⟨ρ, rfl, hρ⟩ := hF.open_
    simp only [List.forall_mem_cons] at hρ
    obtain ⟨r1, r4, r6, r9, r10, r12, r13, r51, r52, r53, r79, r80, r81, -⟩ := hρ
    simp only [lst, Nat.reduceAdd, r1, r4, r6, r9, r10, r12, r13, r51, r52, r53, r79, r80, r81]
    clear r1 r4 r6 r9 r10 r12 r13 r51 r52 r53 r79 r80 r81 hF hE hM hO hJ
    have hz := EW.out.size
    by_cases hkn : k < n
    · have hkz : (k : Int) < (n : Int) := by omega
      have HHW := Lib.hid (HH.out.below EW.out HHB.out)
      obtain ⟨bh, oh, th, rfl, hth, -, hcell⟩ := HHW.out.at_ hkn
      have ch := SlI.cell hcell (Ext.refl _)
      obtain ⟨y, hyc⟩ : ∃ y, cnt th = y := ⟨_, rfl⟩
      have hy := HROW.out k th hth
      have hy0 := HCB.out th
      rw [hyc] at hy hy0
      have hkb : In64 th := by have := rising_gt HR.out.hr th (List.mem_of_getElem? hth); unfold In64; omega
      have HST := Lib.hid (outTo_succ (h := h0) hth hy)
      have hlk := MW.out.look hkb
      rw [hyc] at hlk
      obtain ⟨b0, b1', bf, bl⟩ := (show Blk W b1 _ _ from (EW.out.block b1 hb3).trans HB.out).c2
      have hlen := outTo_len c h0 row k
      clear hcell hth hy hyc
      by_cases h0y : y = 0
      · subst h0y
        go_wp2
        exact Handed.intro (n - (k + 1)) (by omega) (HJ.out _ _ _ ⟨k + 1, A1, n1, d1, by omega, Nat.le_refl _, ⟨rfl, rfl, by simp [Act.eval]⟩, EW.out.alloc (by omega) _, MW.out.alloc _, by rw [HST.out, if_neg (by omega), List.append_nil]; exact OW.out.alloc _⟩)
      · have h1 : (y == 0) = false := by simpa using h0y
        have HYP := Lib.hid (show 0 < y by omega)
        go_wp2_with (at_builtin; refine wpList_app encHd 41 99 3 _ 24 Tryd.underlying41 info99x rfl (by decide) (by decide) (fun _ => rfl) encHd_1 rfl (.tmp 96) (.tmp 98) rfl B _ (out0 ++ outTo c h0 row k) rfl ((OW.out.alloc _).alloc _) (W.heap.size + 1) 1 ⟨h0, th, y⟩ rfl (cells3h (by simp [go_sem]) (by simp [go_sem]) (by simp [go_sem])) (by simp; omega) (by simp; omega) ?_)
        intro g9 cap w9 hown hg9 hbel hgr
        have HO9 := Lib.hid hown
        have HE9 := Lib.hid (show Below B w w9 from ((EW.out.alloc (by omega) _).alloc (by simp; omega) _).trans hbel)
        have HM9 := Lib.hid (show MapI w9 bm K cnt from ((MW.out.alloc _).alloc _).at_ (hgr.block bm (by have := MW.out.lt; simp; omega) (own_neC OW.out MW.out.noC)))
        clear hown hbel hgr b0 b1' bf bl ch hlk
        go_wp2
        exact Handed.intro (n - (k + 1)) (by omega) (HJ.out _ _ _ ⟨k + 1, _, _, _, by omega, Nat.le_refl _, ⟨rfl, rfl, by simp [Act.eval]; first | done | exact ⟨rfl, rfl, rfl⟩⟩, HE9.out, HM9.out, by rw [HST.out, if_pos HYP.out]; exact HO9.out⟩)
    · have HE := Lib.hid (show k = n by omega)
      go_wp2
      have ho := OW.out
      rw [outTo_all (by have := HE.out; have := HN.out; omega)] at ho
      exact HQ.out _ _ A1 n1 d1 ⟨rfl, rfl, by simp [Act.eval]⟩ EW.out ho
end Go.Proofs.YtafdbgielmlihaaDoor
/- The program's Hands, whole. -/
namespace Go.Proofs.YtafdbgielmlihaaDoor
open Go.RowKit Go.Shelf Go.Lib
set_option maxRecDepth 100000
set_option linter.unusedSimpArgs false

theorem HopW.below {c : Chn} {b1 b4 b9 mb gm n2 cp2 N2 M2 B : Nat} {A2 : Option Addr} {v1 hv' sv' cv' : Value} {m : List Int} {W W' : World} (h : HopW c b1 b4 b9 mb gm n2 cp2 N2 M2 A2 v1 hv' sv' cv' m W) (k : Below B W W')
    (h1 : b1 < B) (h4 : b4 < B) (hm : mb < B) (h9 : b9 < B) (hg : gm < B) (hs : 0 < c.sales.length → ∀ b o, A2 = some ⟨b, o, none⟩ → b < B) : HopW c b1 b4 b9 mb gm n2 cp2 N2 M2 A2 v1 hv' sv' cv' m W' :=
  ⟨(k.block b1 h1).trans h.ch, (k.block b4 h4).trans h.mp, (k.block mb hm).trans h.mkt, (k.block b9 h9).trans h.fn, (k.block gm hg).trans h.row, h.sl.below k hs, h.x1, h.x4, h.xm, h.x9, h.xs⟩
theorem OffB.far3 {gm bo bm : Nat} {X W U : World} {o : Obj} (h : OffB (fun i => i = gm ∨ i = bo) X W) (k : OffB (fun i => i = gm ∨ i = bm ∨ i = bo) (W.alloc o) U) (hb : X.heap.size ≤ bm) : OffB (fun i => i = gm ∨ i = bo) X U :=
  ⟨k.os.trans h.os, k.tape.trans h.tape, k.output.trans h.output, Nat.le_trans h.size (Nat.le_trans (by simp) k.size), fun i hi hs => (k.block i (by have := h.size; simp; omega) (by
    rintro (h1 | h1 | h1)
    · exact hs (.inl h1)
    · omega
    · exact hs (.inr h1))).trans (((Ext.al W o).block i (by have := h.size; omega)).trans (h.block i hi hs))⟩
theorem OffB.below {S : Nat → Prop} {X W U : World} (h : OffB S X W) (k : Below X.heap.size W U) : OffB S X U :=
  ⟨k.os.trans h.os, k.tape.trans h.tape, k.output.trans h.output, Nat.le_trans h.size k.size, fun i hi hs => (k.block i hi).trans (h.block i hi hs)⟩
/-- What the loop over the houses keeps. -/
structure HdW (c : Chn) (l : List Int) (b1 b4 b9 mb gm bo n2 cp2 N2 M2 : Nat) (A2 : Option Addr) (v1 hv' sv' cv' : Value) (X0 : World) (k : Nat) (v : Value) (W : World) : Prop where
  off : OffB (fun i => i = gm ∨ i = bo) X0 W
  hop : HopW c b1 b4 b9 mb gm n2 cp2 N2 M2 A2 v1 hv' sv' cv' (handsTo c l (getsL c l) k).1 W
  owe : ∃ f nn, MapI W bo nn f ∧ OweAt c (getsL c l) k 0 f ∧ nn ≤ 10 + 1000 * k
  out : Own encHd 99 3 W X0.heap.size v (handsTo c l (getsL c l) k).2
set_option maxHeartbeats 8000000 in
theorem hands_any (c : Chn) (l : List Int) (hv sv : Value) (w : World) (hcl : CloseOf c l) (hT : Tab w) (hh : SlI w hv c.houses) (hs : SlL w sv c.sales) (hl : c.sales.length ≤ 1000) :
    Calls Tryd.prog 30 #[valC hv sv] w (HandE (handsL c l) (errB (checkP c) 60) w) := by
  have HT := Lib.hid hT; have HH := Lib.hid hh; have HS := Lib.hid hs; have HL := Lib.hid hl
  obtain ⟨A, n, cp, rfl, hn, hlc, hcm⟩ := hh.form
  obtain ⟨A2, n2, cp2, rfl, hn2, hlc2, hcm2⟩ := hs.form
  clear hh hs hT hl
  cases hc : checkP c with
  | false =>
    have HO := Lib.hid (show handsL c l = [] by unfold handsL; rw [hc]; rfl)
    have HCK := Lib.hid hc
    clear hcl hc
    go_enter Tryd.func30, Tryd.ntmps30
    go_wp2_with fail
    refine (opened_no c _ _ _ (HT.out.ext (Ext.al _ _)) (HH.out.ext (Ext.al _ _)) (HS.out.ext (Ext.al _ _)) HL.out HCK.out).mono ?_
    rintro e w1 ⟨rfl, hE⟩
    have E1 := Lib.hid ((Ext.al w _).trans hE); clear hE
    go_wp2
    go_ret2
    exact ⟨⟨.slice none 0 0, by rfl, by rw [HO.out]; exact Sl.nil _⟩, E1.out.alloc _⟩
  | true =>
    have HPL := Lib.hid (show handsL c l = (handsTo c l (getsL c l) c.houses.length).2 by unfold handsL; rw [hc]; rfl)
    have HO := Lib.hid (hcl.1 hc)
    have HCLO := Lib.hid hcl
    have HCK := Lib.hid hc
    have HR := Lib.hid (check_right hc).1
    have HS10 := Lib.hid (check_right hc).2
    have B0 := Lib.hid (show Blk (w.alloc (.cells #[.slice A n cp, .slice A2 n2 cp2] 25)) w.heap.size 25 #[.slice A n cp, .slice A2 n2 cp2] from Blk.new _ _ _)
    clear hcl hc
    go_enter Tryd.func30, Tryd.ntmps30
    go_wp2_with fail
    refine (opened_yes c l _ _ _ HCLO.out (HT.out.ext (Ext.al _ _)) (HH.out.ext (Ext.al _ _)) (HS.out.ext (Ext.al _ _)) HCK.out).mono ?_
    rintro e w2 ⟨mb, gm, hv', sv', cv', rfl, hE, h1, h2, h3, h4, h5, h6'⟩
    have HLN := Lib.hid (close_len HO.out)
    obtain ⟨N2, hN2⟩ : ∃ N2, c.sales.length = N2 := ⟨_, rfl⟩
    rw [hN2] at h3
    have hlN : l.length = N2 := by have := HLN.out; omega
    have rm := fun w => run_makeMap (P := Tryd.prog) 117 w
    obtain ⟨V, hV⟩ : ∃ V, V = (w2.alloc (.cells #[.pointer (some ⟨mb, 0, none⟩)] 109)).alloc (.map #[] 0) := ⟨_, rfl⟩
    have hzV : V.heap.size = w2.heap.size + 2 := by rw [hV]; simp
    have E2V := Lib.hid (show Ext w2 V from hV ▸ (Ext.al _ _).alloc _)
    have EV := Lib.hid (((Ext.al w _).trans hE).trans E2V.out)
    have B1V := Lib.hid ((B0.out.ext hE).ext E2V.out)
    have BPV := Lib.hid (show Blk V w2.heap.size 109 #[.pointer (some ⟨mb, 0, none⟩)] from hV ▸ (Blk.new _ _ _).alloc _)
    have MV := Lib.hid (h3.ext E2V.out); have RV := Lib.hid (h4.ext E2V.out); have HV' := Lib.hid (h5.ext E2V.out); have SV' := Lib.hid (h6'.ext E2V.out)
    have OV := Lib.hid (show MapI V (w2.heap.size + 1) 0 fun _ => 0 from by
      have := MapI.made (w2.alloc (.cells #[.pointer (some ⟨mb, 0, none⟩)] 109))
      rw [World.size_alloc] at this
      exact hV ▸ this)
    have LV := Lib.hid (show SlI V (.slice (some ⟨gm, 0, none⟩) N2 N2) l from by
      have := RV.out.sl (by rw [hlN]; have := HS10.out; unfold maxLen; omega)
      rwa [hlN] at this)
    have hgw : gm < w2.heap.size := h4.lt
    have hmw : mb < w2.heap.size := h3.lt
    have hww := hE.size
    rw [World.size_alloc] at h1 h2 hww
    clear hE h3 h4 h5 h6'
    go_wp2
    simp only [← hV]
    clear hV
    have m0 := fun W (h : Ext V W) => (BPV.out.ext h).c1
    have m1 := fun W (h : Ext V W) => (MV.out.ext h).c4
    refine wp_region_tame (fun W => Ext V W) (fun W W' => Ext W W') (by kernel_rfl) 103 rfl (by decide +kernel) (Ext.refl _).drew ?_
    repeat (apply tame_q rfl; (intro ρ W hC hr hD; (obtain ⟨hrc, hrg, hrf, hrs⟩ := hr); (simp [go_sem] at hD); go_simp; first | exact ⟨⟨hC, Ext.refl _⟩, rfl⟩ | exact ⟨⟨hC, RS.refl _⟩, rfl⟩ | exact rfl); simp only [List.nil_append, List.cons_append])
    apply tame_v rfl (RowV V.heap.size (getsL c l)) (fun v W W' _ hE h => h.ext hE)
    · intro ρ W hC hr hD
      obtain ⟨hrc, hrg, hrf, hrs⟩ := hr
      simp [go_sem] at hD
      have hz := hC.size
      clear m0 m1
      go_simp
      refine (mgets_any c l mb _ _ _ _ _ W (MV.out.ext hC) (HV'.out.ext hC) (SV'.out.ext hC) (LV.out.ext hC) HR.out (by have := HS10.out; omega) HLN.out (fun y hy => by have := close_nine HR.out HO.out y hy; omega)).mono ?_
      rintro e w' ⟨⟨g, rfl, hg, hr⟩, hE⟩
      exact ⟨_, rfl, ⟨hC.trans hE, hE⟩, ⟨g, rfl, by omega, hr⟩⟩
    simp only [List.nil_append, List.cons_append]
    apply tame_v rfl (fun v _ => v = .int .i64 (n : Int)) (fun v W W' _ _ h => h)
    · intro ρ W hC hr hD
      obtain ⟨hrc, hrg, hrf, hrs⟩ := hr
      simp [go_sem] at hD
      obtain ⟨g, d1, d2, d3⟩ := hD
      clear m0 m1
      go_simp
      exact ⟨⟨hC, Ext.refl _⟩, by rw [gets_len, hn.out]⟩
    simp only [List.nil_append, List.cons_append]
    repeat (apply tame_q rfl; (intro ρ W hC hr hD; (obtain ⟨hrc, hrg, hrf, hrs⟩ := hr); (simp [go_sem] at hD); go_simp; first | exact ⟨⟨hC, Ext.refl _⟩, rfl⟩ | exact ⟨⟨hC, RS.refl _⟩, rfl⟩ | exact rfl); simp only [List.nil_append, List.cons_append])
    refine tame_end_put rfl rfl (fun ρ V2 hC hr hF => ?_)
    simp [go_sem] at hF
    obtain ⟨f1, f2, f3, f4, f5, ⟨g5, f6, hg5, hR5⟩, f7, f8⟩ := hF
    have hgn : (getsL c l).length = n := by rw [gets_len]; exact hn.out.symm
    rw [hgn] at f6
    simp only [putF, f1, f2, f3, f4, f5, f6, f7, f8, List.set_cons_succ, List.set_cons_zero]
    have EV2 := Lib.hid hC; have R5 := Lib.hid hR5
    clear hr f1 f2 f3 f4 f5 f6 f7 f8 m0 m1 hR5 hC
    have hzV2 := EV2.out.size
    have HRC := Lib.hid HR.out
    have hn6 : n ≤ 6 := by have := HR.out.h6; have := hn.out; omega
    have HMV := Lib.hid (show Mvs c l from ⟨HLN.out, close_nine HR.out HO.out⟩)
    have HNE := Lib.hid hn.out
    have HAB := Lib.hid (fun h => HH.out.lt (w := w) h)
    have HSB := Lib.hid (fun h => HS.out.lt (w := w) h)
    have EW2 := Lib.hid (EV.out.trans EV2.out)
    have OV2 := Lib.hid (OV.out.ext EV2.out)
    have B1V2 := Lib.hid (B1V.out.ext EV2.out)
    have HHV2 := Lib.hid (HH.out.ext EW2.out)
    go_wp2
    refine wp_loop_ghost_k (fun g A' W => ∃ (k nn : Nat) (f : Int → Int), k ≤ n ∧ n - k ≤ g ∧ Fr 103 [(1, .pointer (some ⟨w.heap.size, 0, none⟩)), (4, .pointer (some ⟨w2.heap.size, 0, none⟩)), (6, .map (some (w2.heap.size + 1))), (31, .slice (some ⟨g5, 0, none⟩) n n), (32, .int .i64 (n : Int)), (33, .int .i64 (k : Int))] [] A' ∧
      V2.grownBy W (some (w2.heap.size + 1)) ∧ MapI W (w2.heap.size + 1) nn f ∧ OweTo c (getsL c l) k f ∧ nn ≤ k) n ?_ ?_
    · exact ⟨0, 0, _, by omega, by omega, ⟨rfl, rfl, by simp [Act.eval]⟩, World.grownBy.refl _ _, OV2.out, owe_start _ _, by omega⟩
    · rintro g A' W ⟨k, nn, f, hk, hg, hF, hG, hM, hOT, hnn⟩ J K' hJ hK
      have HJ := Lib.hid hJ; have HG := Lib.hid hG; have HM := Lib.hid hM; have HOT := Lib.hid hOT
      obtain ⟨ρ, rfl, hρ⟩ := hF.open_
      simp only [List.forall_mem_cons] at hρ
      obtain ⟨r1, r4, r6, r31, r32, r33, -⟩ := hρ
      simp only [lst, Nat.reduceAdd, r1, r4, r6, r31, r32, r33]
      clear r1 r4 r6 r31 r32 r33 hF hG hM hOT hJ
      have hzW := HG.out.size
      have NC := Lib.hid OV2.out.noC
      have HHW := Lib.hid (HHV2.out.offC HG.out NC.out)
      have HB1 := Lib.hid (B1V2.out.offC HG.out NC.out)
      by_cases hkn : k < n
      · have hkz : (k : Int) < (n : Int) := by omega
        obtain ⟨bh, oh, h, rfl, hh, -, hcell⟩ := HHW.out.at_ hkn
        have ch := SlI.cell hcell (Ext.refl _)
        obtain ⟨g0, hg0⟩ : ∃ g0, (getsL c l)[k]? = some g0 := ⟨_, List.getElem?_eq_getElem (by omega)⟩
        have hgb := gets_bd HMV.out (by have := HS10.out; omega) g0 (List.mem_of_getElem? hg0)
        have R5W := Lib.hid (show RowI W g5 (getsL c l) from Blk.offC R5.out HG.out NC.out)
        have cg := R5W.out.cell hg0
        have cgf := R5W.out.frozen
        have cgl := R5W.out.lt
        obtain ⟨b0, b1, bf, bl⟩ := HB1.out.c2
        have hkb : In64 h := by have := rising_gt HR.out.hr h (List.mem_of_getElem? hh); unfold In64; omega
        have hw1 : IntKind.i64.wrap (-g0) = -g0 := by rw [IntKind.wrap_i64]; omega
        have HHK := Lib.hid hh; have HGK := Lib.hid hg0
        clear hcell hh hg0
        by_cases hneg : g0 < 0
        · obtain ⟨W2, s2, hM2, hG2⟩ := HM.out.store hkb (by omega) (v := -g0) (by unfold In64; omega)
          have HM2 := Lib.hid hM2; have HG2 := Lib.hid (grown_tr HG.out hG2)
          have HOT2 := Lib.hid (owe_put HR.out HOT.out HHK.out HGK.out hneg)
          clear hM2 hG2
          go_wp2
          exact Handed.intro (n - (k + 1)) (by omega) (HJ.out _ _ _ ⟨k + 1, nn + 1, _, by omega, Nat.le_refl _, ⟨rfl, rfl, by simp [Act.eval]⟩, HG2.out, HM2.out, HOT2.out, by omega⟩)
        · have HOT2 := Lib.hid (owe_skip HOT.out HGK.out hneg)
          go_wp2
          exact Handed.intro (n - (k + 1)) (by omega) (HJ.out _ _ _ ⟨k + 1, nn, f, by omega, Nat.le_refl _, ⟨rfl, rfl, by simp [Act.eval]⟩, HG.out, HM.out, HOT2.out, by omega⟩)
      · have HE := Lib.hid (show k = n by omega)
        have HOA := Lib.hid (owe_full HOT.out (by have := HE.out; have := HNE.out; omega))
        obtain ⟨X0, hX0⟩ : ∃ X0, X0 = W.alloc (.cells #[.func (.func 80) #[] #[.pointer (some ⟨w.heap.size, 0, none⟩), .pointer (some ⟨w2.heap.size, 0, none⟩), .pointer (some ⟨W.heap.size, 0, none⟩)]] 118) := ⟨_, rfl⟩
        have EX := Lib.hid (show Ext W X0 from hX0 ▸ Ext.al _ _)
        have BF := Lib.hid (show Blk X0 W.heap.size 118 #[.func (.func 80) #[] #[.pointer (some ⟨w.heap.size, 0, none⟩), .pointer (some ⟨w2.heap.size, 0, none⟩), .pointer (some ⟨W.heap.size, 0, none⟩)]] from hX0 ▸ Blk.new _ _ _)
        have hzX : X0.heap.size = W.heap.size + 1 := by rw [hX0]; simp
        have HB1X := Lib.hid (HB1.out.ext EX.out)
        have HOP := Lib.hid (show HopW c w.heap.size w2.heap.size W.heap.size mb gm n2 cp2 N2 N2 A2 (.slice A n cp) hv' sv' cv' l X0 from
          ⟨HB1X.out, ((BPV.out.ext EV2.out).offC HG.out NC.out).ext EX.out, ((MV.out.ext EV2.out).offC HG.out NC.out).ext EX.out, BF.out, (show RowI W gm l from Blk.offC (RV.out.ext EV2.out) HG.out NC.out).ext EX.out, ((HS.out.ext EW2.out).offC HG.out NC.out).ext EX.out,
            by omega, by omega, Blk.ne MV.out RV.out (by decide), by omega, fun h b o e => by have := HSB.out h b o e; omega⟩)
        have HMX := Lib.hid (HM.out.ext EX.out)
        have EWX := Lib.hid (show Ext w X0 from (ext_grown EW2.out HG.out (by omega)).trans EX.out)
        obtain ⟨b0, b1, bf, bl⟩ := HB1.out.c2
        go_wp2
        simp only [← hX0]
        clear b0 b1 bf bl hX0
        refine wp_loop_ghost_k (fun g A' W' => ∃ (k : Nat) (A1 : Option Addr) (n1 d1 : Nat), k ≤ n ∧ n - k ≤ g ∧ Fr 103 [(1, .pointer (some ⟨w.heap.size, 0, none⟩)), (4, .pointer (some ⟨w2.heap.size, 0, none⟩)), (6, .map (some (w2.heap.size + 1))), (9, .pointer (some ⟨W.heap.size, 0, none⟩)), (10, .slice A1 n1 d1), (51, .slice A n cp), (52, .int .i64 (n : Int)), (53, .int .i64 (k : Int))] [] A' ∧
          HdW c l w.heap.size w2.heap.size W.heap.size mb gm (w2.heap.size + 1) n2 cp2 N2 N2 A2 (.slice A n cp) hv' sv' cv' X0 k (.slice A1 n1 d1) W') n ?_ ?_
        · exact ⟨0, none, 0, 0, by omega, by omega, ⟨rfl, rfl, by simp [Act.eval]⟩, OffB.refl _ _, HOP.out, ⟨f, nn, HMX.out, HOA.out, by omega⟩, Own.nil _ _⟩
        · rintro g A' W' ⟨k, A1, n1, d1, hk, hg, hF, hD⟩ J K' hJ hK
          have HJ := Lib.hid hJ; have HD := Lib.hid hD
          have hzW' := hD.off.size
          obtain ⟨f2, nn2, hM2, hOA2, hnn2⟩ := hD.owe
          have HM2 := Lib.hid hM2; have HOA2 := Lib.hid hOA2
          obtain ⟨ρ, rfl, hρ⟩ := hF.open_
          simp only [List.forall_mem_cons] at hρ
          obtain ⟨r1, r4, r6, r9, r10, r51, r52, r53, -⟩ := hρ
          simp only [lst, Nat.reduceAdd, r1, r4, r6, r9, r10, r51, r52, r53]
          clear r1 r4 r6 r9 r10 r51 r52 r53 hF hD hM2 hOA2 hJ
          have EW' := Lib.hid (ext_off EWX.out HD.out.off (fun i hi => by rintro (h | h) <;> omega))
          by_cases hkn : k < n
          · have hkz : (k : Int) < (n : Int) := by omega
            have HHW' := Lib.hid (HH.out.ext EW'.out)
            obtain ⟨bh, oh, h, rfl, hh, -, hcell⟩ := HHW'.out.at_ hkn
            have ch := SlI.cell hcell (Ext.refl _)
            obtain ⟨g0, hg0⟩ : ∃ g0, (getsL c l)[k]? = some g0 := ⟨_, List.getElem?_eq_getElem (by omega)⟩
            have hgb := gets_bd HMV.out (by have := HS10.out; omega) g0 (List.mem_of_getElem? hg0)
            have HHK := Lib.hid hh; have HGK := Lib.hid hg0
            have HHM := Lib.hid (List.mem_of_getElem? hh)
            obtain ⟨hto1, hto2⟩ := handsTo_ok HR.out HMV.out (gets_len c l) k (by have := HNE.out; omega)
            have HTO1 := Lib.hid hto1
            have HST := Lib.hid (handsTo_succ (c := c) (l := l) hh hg0)
            have hCR := cnt_row HR.out HHM.out hto1 (-g0).toNat
            have HCR := Lib.hid hCR
            obtain ⟨K, hKK⟩ : ∃ K, (-g0).toNat = K := ⟨_, rfl⟩
            rw [hKK] at HST HCR
            have HKK := Lib.hid hKK
            clear hcell hh hg0 hto1 hCR hKK
            go_upto_block 4 with (fail)
            clear ch
            refine bales4_wp (c := c) (m0 := (handsTo c l (getsL c l) k).1) (gets := getsL c l) (k := k) (K := K) (h0 := h) (g0 := g0) (b1 := w.heap.size) (b4 := w2.heap.size) (b9 := W.heap.size) (mb := mb) (gm := gm) (n2 := n2) (cp2 := cp2) (N2 := N2) (M2 := N2) (bm := W'.heap.size) (bo := w2.heap.size + 1) (nn := nn2) (A2 := A2) (v1 := .slice (some ⟨bh, oh, none⟩) n cp) (hv' := hv') (sv' := sv') (cv' := cv') (f0 := f2)
              (v10 := .slice A1 n1 d1) (v51 := .slice (some ⟨bh, oh, none⟩) n cp) (v52 := .int .i64 (n : Int)) (v53 := .int .i64 (k : Int))
              HR.out (by have := HS10.out; omega) hN2.symm HHK.out HGK.out HKK.out.symm (by have := HKK.out; omega) HTO1.out ⟨rfl, rfl, by simp [Act.eval]⟩ (HD.out.hop.ext (Ext.al _ _)) (MapI.made _) (HM2.out.ext (Ext.al _ _)) HOA2.out (by omega) (by omega) ?_
            intro A3 W3 f3 hF3 hOff3 hHop3 hM3 hO3 hOA3
            have OFX := Lib.hid (HD.out.off.far3 hOff3 hzW')
            have OUT3 := Lib.hid (show Own encHd 99 3 W3 X0.heap.size (.slice A1 n1 d1) (handsTo c l (getsL c l) k).2 from
              own_same (HD.out.out.alloc _) fun g hg => hOff3.block g (own_rng (HD.out.out.alloc _) hg).2 (by
                have := own_rng HD.out.out hg
                rintro (h | h | h) <;> omega))
            have HP3 := Lib.hid hHop3; have HM3 := Lib.hid hM3; have HO3 := Lib.hid hO3; have HOA3 := Lib.hid hOA3
            have hz3 := hOff3.size
            rw [World.size_alloc] at hz3
            have EW3 := Lib.hid (ext_off EWX.out OFX.out (fun i hi => by rintro (h | h) <;> omega))
            have HHW3 := Lib.hid (HH.out.ext EW3.out)
            obtain ⟨ρ, rfl, hρ⟩ := hF3.open_
            simp only [List.forall_mem_cons] at hρ
            obtain ⟨r1, r4, r6, r9, r10, r12, r13, r51, r52, r53, -⟩ := hρ
            simp only [lst, Nat.reduceAdd, r1, r4, r6, r9, r10, r12, r13, r51, r52, r53]
            clear r1 r4 r6 r9 r10 r12 r13 r51 r52 r53 hF3 hOff3 hHop3 hM3 hO3 hOA3 HM2 HOA2
            obtain ⟨b0, b1, bf, bl⟩ := HP3.out.ch.c2
            go_upto_block 6 with (fail)
            clear b0 b1 bf bl
            refine outp6_wp (c := c) (row := (handRow c h K ((handsTo c l (getsL c l) k).1, List.replicate c.houses.length 0)).2) (cnt := (cntTo c h (handsTo c l (getsL c l) k).1 K).2) (out0 := (handsTo c l (getsL c l) k).2) (h0 := h) (b1 := w.heap.size) (bm := W'.heap.size) (K := K) (B := X0.heap.size) (A := some ⟨bh, oh, none⟩) (n := n) (cp := cp) (v2 := .slice A2 n2 cp2) (A0 := A1) (n0 := n1) (d0 := d1)
              (v4 := .pointer (some ⟨w2.heap.size, 0, none⟩)) (v6 := .map (some (w2.heap.size + 1))) (v9 := .pointer (some ⟨W.heap.size, 0, none⟩)) (v51 := .slice (some ⟨bh, oh, none⟩) n cp) (v52 := .int .i64 (n : Int)) (v53 := .int .i64 (k : Int))
              HR.out HNE.out hn6 (by omega) (by omega) (by omega) (fun t => (cnt_bd _ _ _ _ _).1) HCR.out.2 ⟨rfl, rfl, by simp [Act.eval]⟩ HP3.out.ch HHW3.out (fun h b o e => by have := HAB.out h b o e; omega) HM3.out OUT3.out ?_
            intro A4 W4 A5 n5 d5 hF4 hBel hO4
            have HD4 := Lib.hid (show HdW c l w.heap.size w2.heap.size W.heap.size mb gm (w2.heap.size + 1) n2 cp2 N2 N2 A2 (.slice (some ⟨bh, oh, none⟩) n cp) hv' sv' cv' X0 (k + 1) (.slice A5 n5 d5) W4 from
              ⟨OFX.out.below hBel, by
                rw [HST.out]
                dsimp only
                rw [← HCR.out.1]
                exact HP3.out.below hBel (by omega) (by omega) (by omega) (by omega) (by omega) (fun h b o e => by have := HSB.out h b o e; omega),
                ⟨f3, nn2 + K, HO3.out.at_ (hBel.block _ (by omega)), HOA3.out, by have := HKK.out; omega⟩, by rw [HST.out]; exact hO4⟩)
            obtain ⟨ρ, rfl, hρ⟩ := hF4.open_
            simp only [List.forall_mem_cons] at hρ
            obtain ⟨r1, r4, r6, r9, r10, r51, r52, r53, -⟩ := hρ
            simp only [lst, Nat.reduceAdd, r1, r4, r6, r9, r10, r51, r52, r53]
            clear r1 r4 r6 r9 r10 r51 r52 r53 hF4 hBel hO4
            go_wp2
            exact Handed.intro (n - (k + 1)) (by omega) (HJ.out _ _ _ ⟨k + 1, A5, n5, d5, by omega, Nat.le_refl _, ⟨rfl, rfl, by simp [Act.eval]⟩, HD4.out⟩)
          · have HE := Lib.hid (show k = n by omega)
            go_wp2
            go_ret2
            refine ⟨⟨.slice A1 n1 d1, by rfl, ?_⟩, EW'.out⟩
            have := HD.out.out
            rw [HPL.out, ← HNE.out, ← HE.out]
            exact this.sl (fun _ => rfl)
end Go.Proofs.YtafdbgielmlihaaDoor
/- What stands still while a law of the chain runs. -/
namespace Go.Proofs.YtafdbgielmlihaaDoor
open Go.RowKit Go.Shelf Go.Lib
set_option maxRecDepth 100000

/-- What stands still while the law runs. -/
structure CsT (c : Chn) (w : World) (q : Nat) (hv sv h2 s2 : Value) (W : World) : Prop where
  e : Ext w W
  p : Blk W w.heap.size 25 #[hv, sv]
  q : Blk W q 25 #[h2, s2]
  t : Tab W
  a1 : SlI W hv c.houses
  a2 : SlL W sv c.sales
  b1 : SlI W h2 c.houses
  b2 : SlL W s2 c.sales
theorem CsT.ext {c : Chn} {w : World} {q : Nat} {hv sv h2 s2 : Value} {W W' : World} (h : CsT c w q hv sv h2 s2 W) (e : Ext W W') : CsT c w q hv sv h2 s2 W' :=
  ⟨h.e.trans e, h.p.ext e, h.q.ext e, h.t.ext e, h.a1.ext e, h.a2.ext e, h.b1.ext e, h.b2.ext e⟩
end Go.Proofs.YtafdbgielmlihaaDoor
/- The reference's SameHands; the law ChainHands: the walk. -/
namespace Go.Proofs.YtafdbgielmlihaaDoor
open Go.RowKit Go.Shelf Go.Lib
set_option maxRecDepth 100000
set_option linter.unusedSimpArgs false

theorem hnd_cells {b off i : Nat} {x : Hnd} {w W : World} (h : ∀ W, Ext w W → ∀ j u, (encHd x)[j]? = some u → W.cell? ⟨b, off + i * 3 + j, none⟩ = some u) (e : Ext w W) :
    W.cell? ⟨b, off + i * 3, none⟩ = some (.int .i64 x.a) ∧ W.cell? ⟨b, off + i * 3 + 1, none⟩ = some (.int .i64 x.b) ∧ W.cell? ⟨b, off + i * 3 + 2, none⟩ = some (.int .i64 x.n) :=
  ⟨by simpa using h W e 0 _ rfl, h W e 1 _ rfl, h W e 2 _ rfl⟩
theorem neq99s (a b x : Int) (w : World) : (binOp .neq 99 (.agg #[.int .i64 a, .int .i64 b, .int .i64 x]) (.agg #[.int .i64 a, .int .i64 b, .int .i64 x])).run Tryd.prog w = .ok (.bool false) w := by
  have u3 := Tryd.underlying3
  have a3 := Tryd.isAgg3
  have z3 := Tryd.sizeOf3
  rw [run_neq_struct, show (10000 : Nat) = 9999 + 1 from rfl, run_equalIn_agg w 9999 99 _ _ und99 held99]
  simp only [Program.fieldsOf, Tryd.underlying99]
  go_simp
theorem sameHands_any (l : List Hnd) (v v' : Value) (w : World) (h : Sl encHd 3 w v l) (h' : Sl encHd 3 w v' l) :
    Calls Tryd.prog 32 #[v, v'] w fun e w' => e = .returned (.bool true) ∧ Ext w w' := by
  have HA := Lib.hid h
  have HB := Lib.hid h'
  obtain ⟨A, n, cp, rfl, hn, hlc, hcm⟩ := h.form
  obtain ⟨A2, n2, cp2, rfl, hn2, hlc2, hcm2⟩ := h'.form
  have hnn : n2 = n := by have := hn.out; have := hn2.out; omega
  subst hnn
  have nq := fun a b x w => neq99s a b x w
  clear h h'
  go_enter Tryd.func32, Tryd.ntmps32
  go_wp2
  go_loopg [5] n2 (fun gg s wr => ∃ (k : Nat), k ≤ n2 ∧ n2 - k ≤ gg ∧ s = .int .i64 k ∧ Aside (Ext w wr))
  case atStart => exact ⟨0, by omega, by omega, rfl, Ext.refl _⟩
  case round =>
    obtain ⟨k, hk, hg, rfl, EW⟩ := hrel
    by_cases hlt : k < n2
    · have hjz : (k : Int) < (n2 : Int) := by omega
      obtain ⟨bb, off, x, rfl, hx, hb, hcell⟩ := HA.out.at_ hlt
      obtain ⟨bb', off', x', rfl, hx', hb', hcell'⟩ := HB.out.at_ hlt
      have hxx : x' = x := by rw [hx] at hx'; injection hx' with h; exact h.symm
      subst hxx
      have c0 := fun W (h : Ext wr W) => (hnd_cells hcell (EW.out.trans h)).1
      have c1 := fun W (h : Ext wr W) => (hnd_cells hcell (EW.out.trans h)).2.1
      have c2 := fun W (h : Ext wr W) => (hnd_cells hcell (EW.out.trans h)).2.2
      have d0 := fun W (h : Ext wr W) => (hnd_cells hcell' (EW.out.trans h)).1
      have d1 := fun W (h : Ext wr W) => (hnd_cells hcell' (EW.out.trans h)).2.1
      have d2 := fun W (h : Ext wr W) => (hnd_cells hcell' (EW.out.trans h)).2.2
      clear hx hx' hcell hcell'
      go_wp2
      refine wp_region_tame (fun W => Ext wr W) (fun W W' => Ext W W') (by kernel_rfl) 26 rfl (by decide +kernel) (Ext.refl _).drew ?_
      repeat (apply tame_q rfl; (intro ρ W hC hr hD; (obtain ⟨hrc, hrg, hrf, hrs⟩ := hr); (simp [go_sem] at hD); go_simp; first | exact ⟨⟨hC, Ext.refl _⟩, rfl⟩ | exact ⟨⟨hC, RS.refl _⟩, rfl⟩ | exact rfl); simp only [List.nil_append, List.cons_append])
      refine tame_end 26 rfl rfl (fun ρ W hC hr hF => ?_)
      obtain ⟨hrc, hrg, hrf, hrs⟩ := hr
      simp [go_sem] at hF
      apply frame_to
      · go_simp
        exact rfl
      clear hF hrs hrc hrg hrf
      have HC := Lib.hid hC; clear hC c0 c1 c2 d0 d1 d2
      go_wp2
      go_roundg (n2 - (k + 1))
      case measure => omega
      case rel => exact ⟨k + 1, by omega, by omega, rfl, EW.out.trans HC.out⟩
    · go_wp2
      go_ret
      exact ⟨rfl, EW.out⟩
set_option maxHeartbeats 4000000 in
theorem handsLaw_any (c : Chn) (hv sv : Value) (w : World) (hT : Tab w) (hh : SlI w hv c.houses) (hs : SlL w sv c.sales) :
    Calls Tryd.prog 4 #[valC hv sv] w fun e w' => e = .returned (.bool true) ∧ Ext w w' := by
  have HT := Lib.hid hT
  have HH := Lib.hid hh; have HS := Lib.hid hs
  obtain ⟨A, n, cp, rfl, hn, hlc, hcm⟩ := hh.form
  obtain ⟨A2, n2, cp2, rfl, hn2, hlc2, hcm2⟩ := hs.form
  obtain ⟨l, hcl⟩ := closeOf_exists c
  have HCL := Lib.hid hcl
  clear hh hs hT hcl
  go_enter Tryd.func4, Tryd.ntmps4
  go_wp2_with fail
  generalize hw0 : (w.alloc (.cells #[.slice A n cp, .slice A2 n2 cp2] 25)) = w0
  have HE0 := Lib.hid (show Ext w w0 from hw0 ▸ Ext.al _ _)
  have HB0 := Lib.hid (show Blk w0 w.heap.size 25 #[.slice A n cp, .slice A2 n2 cp2] from hw0 ▸ Blk.new _ _ _)
  clear hw0
  refine (great_any c _ _ _ (HH.out.ext HE0.out) (HS.out.ext HE0.out)).mono ?_
  rintro e w1 ⟨rfl, hE⟩
  have HE1 := Lib.hid (HE0.out.trans hE)
  have HB1 := Lib.hid (HB0.out.ext hE)
  clear hE HB0
  cases hg : greatB c with
  | true =>
    go_wp2
    go_ret
    exact ⟨rfl, HE1.out⟩
  | false =>
    have hlen : c.houses.length ≤ 15 ∧ c.sales.length ≤ 30 := by
      unfold greatB at hg; simp at hg; omega
    clear hg
    have HLE := Lib.hid hlen; clear hlen
    have x0 := HB1.out.c2
    go_wp2_with fail
    clear x0
    refine (twin_any c _ _ _ (HH.out.ext HE1.out) (HS.out.ext HE1.out) (by have := HLE.out; omega) (by have := HLE.out; omega)).mono ?_
    rintro e w2 ⟨⟨v, rfl, tv⟩, hE2⟩
    obtain ⟨dv, wv, rfl, o1, o2⟩ := tv
    obtain ⟨Ad, nd, cd, rfl, -, -, -⟩ := (show SlI w2 dv c.houses from o1.sl (fun _ => rfl)).form
    obtain ⟨Aw, nw, cw, rfl, -, -, -⟩ := (show SlL w2 wv c.sales from o2.sl (fun _ => rfl)).form
    have HTD := Lib.hid (show SlI w2 (.slice Ad nd cd) c.houses from o1.sl (fun _ => rfl))
    have HTW := Lib.hid (show SlL w2 (.slice Aw nw cw) c.sales from o2.sl (fun _ => rfl))
    have HE2 := Lib.hid (HE1.out.trans hE2)
    have HBx := Lib.hid (HB1.out.ext hE2)
    clear o1 o2 hE2 HB1 HE0 HE1
    dsimp only [valC]
    go_wp2_with fail
    have S := Lib.hid (show CsT c w w2.heap.size (.slice A n cp) (.slice A2 n2 cp2) (.slice Ad nd cd) (.slice Aw nw cw) (w2.alloc (.cells #[.slice Ad nd cd, .slice Aw nw cw] 25)) from
      ⟨HE2.out.alloc _, HBx.out.alloc _, Blk.new _ _ _, (HT.out.ext HE2.out).ext (Ext.al _ _), (HH.out.ext HE2.out).ext (Ext.al _ _), (HS.out.ext HE2.out).ext (Ext.al _ _), HTD.out.ext (Ext.al _ _), HTW.out.ext (Ext.al _ _)⟩)
    clear HT HH HS HTD HTW HBx HE2
    refine (passes_any c l _ _ _ HCL.out S.out.t S.out.b1 S.out.b2 (by have := HLE.out; omega)).mono ?_
    rintro e w3 ⟨⟨v1, rfl, hv1⟩, hE⟩
    have L1 := Lib.hid hv1; replace S := Lib.hid (S.out.ext hE)
    clear hv1 hE
    have x0 := S.out.p.c2
    go_wp2_with fail
    clear x0
    refine (refPasses_any c l _ _ _ HCL.out S.out.a1 S.out.a2).mono ?_
    rintro e w4 ⟨⟨v2, rfl, hv2⟩, hE⟩
    have L2 := Lib.hid hv2; replace L1 := Lib.hid (L1.out.ext hE); replace S := Lib.hid (S.out.ext hE)
    clear hv2 hE
    have x0 := S.out.q.c2
    go_wp2_with fail
    clear x0
    refine (hands_any c l _ _ _ HCL.out S.out.t S.out.b1 S.out.b2 (by have := HLE.out; omega)).mono ?_
    rintro e w5 ⟨⟨v3, rfl, hv3⟩, hE⟩
    have L3 := Lib.hid hv3; replace L1 := Lib.hid (L1.out.ext hE); replace L2 := Lib.hid (L2.out.ext hE); replace S := Lib.hid (S.out.ext hE)
    clear hv3 hE
    have x0 := S.out.p.c2
    go_wp2_with fail
    clear x0
    refine (refHands_any c l _ _ _ HCL.out S.out.a1 S.out.a2).mono ?_
    rintro e w6 ⟨⟨v4, rfl, hv4⟩, hE⟩
    have L4 := Lib.hid hv4; replace L1 := Lib.hid (L1.out.ext hE); replace L2 := Lib.hid (L2.out.ext hE); replace L3 := Lib.hid (L3.out.ext hE); replace S := Lib.hid (S.out.ext hE)
    clear hv4 hE
    go_wp2_with fail
    refine (sameInts_any (passesL c l) _ _ _ L1.out L2.out).mono ?_
    rintro e w7 ⟨rfl, hE⟩
    replace L3 := Lib.hid (L3.out.ext hE); replace L4 := Lib.hid (L4.out.ext hE); replace S := Lib.hid (S.out.ext hE)
    clear hE
    go_wp2_with fail
    refine (sameHands_any (handsL c l) _ _ _ L3.out L4.out).mono ?_
    rintro e w8 ⟨rfl, hE⟩
    replace S := Lib.hid (S.out.ext hE)
    clear hE
    have x0 := S.out.p.c2
    have x1 := S.out.q.c2
    go_wp2_with fail
    clear x0 x1
    refine (same_any c _ _ _ _ _ S.out.b1 S.out.b2 S.out.a1 S.out.a2).mono ?_
    rintro e w9 ⟨rfl, hE⟩
    replace S := Lib.hid (S.out.ext hE)
    clear hE
    go_wp2
    go_ret
    exact ⟨rfl, S.out.e⟩
end Go.Proofs.YtafdbgielmlihaaDoor
