/- market.closed, part three: the passes, and how they begin. -/
import Derived.Test.YtafdbgielmlihaaDoorPkChLeastCardM
import Derived.Test.YtafdbgielmlihaaDoorPkChLeastCardD
import Derived.Deep.CutBlock
import Derived.Test.YtafdbgielmlihaaDoorPkChLeastCardE
namespace Go.Proofs.YtafdbgielmlihaaDoor
open Go.RowKit Go.Shelf Go.Lib
set_option maxRecDepth 100000
set_option linter.unusedSimpArgs false

theorem Blk.noDef {W : World} {g : Nat} {t : TypeId} {cs : Array Value} (h : Blk W g t cs) : ∀ l, W.heap[g]? ≠ some (Obj.deferred l) := fun l e => by
  unfold Blk at h
  rw [h] at e
  cases e
theorem Small.fold0 {f : Nat → Int} {C : List (List Int)} (hC : Costs f C) {L : List Stp} (hL : ∀ s ∈ L, s.more = 1 ∨ s.more = -1) {R : List Rch} (h : Small 0 R) {k n : Nat} (hk : k ≤ n) (hn : n * L.length ≤ 900) : Small 900 (passesR C L k R) := by
  have h1 := passesR_small hC hL h k
  refine h1.mono ?_
  have : k * L.length ≤ n * L.length := Nat.mul_le_mul_right _ hk
  omega

set_option maxHeartbeats 4000000 in
theorem passes_wp {B : Nat} {c : Chn} {M : List Int} {f : Nat → Int} {C : List (List Int)} {R : List Rch} {mb b1 bl br gr n : Nat} {A : Option Addr} {cp : Nat} {A2 : Option Addr} {n2 cp2 : Nat} {A3 : Option Addr} {n3 cp3 : Nat} {Ac : Option Addr} {nc cc : Nat} {w : World} {a0 : Act} {ds : List Deferred} {Q : Exit → Act → World → Prop}
    (hR : Right c) (hl : c.sales.length ≤ 40) (hml : M.length = c.sales.length) (hCo : Costs f C) (hCl : C.length = c.sales.length) (hn : n = c.houses.length) (hRl : R.length = n) (hS : Small 0 R) (hL : n * (stepsL c M).length ≤ 900)
    (hF : Fr 154 [(0, .pointer (some ⟨mb, 0, none⟩)), (1, .pointer (some ⟨b1, 0, none⟩)), (2, .pointer (some ⟨bl, 0, none⟩)), (3, .pointer (some ⟨br, 0, none⟩)), (51, .int .i64 (n : Int)), (52, .int .i64 0)] ds a0)
    (h1 : Blk w b1 109 #[.pointer (some ⟨mb, 0, none⟩)]) (hbr : Blk w br 150 #[.slice (some ⟨gr, 0, none⟩) n n]) (hM : Mkt c M mb A n cp A2 n2 cp2 A3 n3 cp3 (.slice Ac nc cc) w) (hC : SlC w (.slice Ac nc cc) C) (hRW : RowR w gr R) (hD : Marks B w ds) (hB : B ≤ w.heap.size)
    (x0 : MktX (fun k => k = gr) c M mb A A2 A3) (x1 : b1 ≠ gr) (x2 : br ≠ gr) (x3 : 0 < C.length → ∀ b o, Ac = some ⟨b, o, none⟩ → b ≠ gr)
    (hQ : ∀ A' W' ds', Fr 154 [(0, .pointer (some ⟨mb, 0, none⟩)), (1, .pointer (some ⟨b1, 0, none⟩)), (2, .pointer (some ⟨bl, 0, none⟩)), (3, .pointer (some ⟨br, 0, none⟩))] ds' A' → Marks B W' ds' →
      w.grownBy W' (some gr) → RowR W' gr (passesR C (stepsL c M) n R) → Q .normal A' W') :
    (subC [1, 1, 1, 2, 3, 2, 1, 1, 0, 1] (Tryd.f87.body.getD .skip)).wp Tryd.prog Q a0 w := by
  have HSL := Lib.hid (steps_count c c.sales M 0)
  have HOK := Lib.hid (fun s hs => stepsL_ok hR (m := M) (s := s) hs)
  have H1 := Lib.hid h1; have HBR := Lib.hid hbr; have HM := Lib.hid hM; have HC := Lib.hid hC; have HRW := Lib.hid hRW; have HQ := Lib.hid hQ; have HR := Lib.hid hR; have HML := Lib.hid hml; have HCO := Lib.hid hCo; have HCL := Lib.hid hCl; have HN := Lib.hid hn; have HRL := Lib.hid hRl; have HS := Lib.hid hS; have HLL := Lib.hid hL; have HD := Lib.hid hD; have HL := Lib.hid hl
  have hn6 : n ≤ 6 := by have := hR.h6; omega
  clear h1 hbr hM hC hRW hQ hR hml hCo hCl hn hRl hS hL hD hl
  delta Tryd.f87
  simp only [subC, Option.getD_some]
  obtain ⟨ρ, rfl, hρ⟩ := hF.open_
  simp only [List.forall_mem_cons] at hρ
  obtain ⟨r0, r1, r2, r3, r51, r52, -⟩ := hρ
  simp only [lst, r0, r1, r2, r3, r51, r52]
  clear r0 r1 r2 r3 r51 r52 hF
  go_wp2
  refine wp_loop_ghost_k (fun g A W => ∃ (kk : Nat) (ds' : List Deferred), kk ≤ n ∧ n - kk ≤ g ∧ Fr 154 [(0, .pointer (some ⟨mb, 0, none⟩)), (1, .pointer (some ⟨b1, 0, none⟩)), (2, .pointer (some ⟨bl, 0, none⟩)), (3, .pointer (some ⟨br, 0, none⟩)), (51, .int .i64 (n : Int)), (52, .int .i64 (kk : Int))] ds' A ∧
    Marks B W ds' ∧ w.grownBy W (some gr) ∧ RowR W gr (passesR C (stepsL c M) kk R)) n ?_ ?_
  · exact ⟨0, ds, by omega, by omega, ⟨rfl, rfl, by simp [Act.eval]⟩, HD.out, World.grownBy.refl _ _, HRW.out⟩
  · rintro g A' W ⟨kk, ds', hkk, hg, hF, hD, hG, hRW⟩ J K hJ hK
    have HJ := Lib.hid hJ; have HD' := Lib.hid hD; have HG := Lib.hid hG; have HRK := Lib.hid hRW
    obtain ⟨ρ, rfl, hρ⟩ := hF.open_
    simp only [List.forall_mem_cons] at hρ
    obtain ⟨r0, r1, r2, r3, r51, r52, -⟩ := hρ
    simp only [lst, r0, r1, r2, r3, r51, r52]
    clear r0 r1 r2 r3 r51 r52 hF hD hG hRW hJ
    by_cases hlt : kk < n
    · have hltz : (kk : Int) < (n : Int) := by omega
      go_upto_block 5 with (fail)
      refine round_wp (c := c) (M := M) (f := f) (C := C) (R := passesR C (stepsL c M) kk R) (K := 900) (mb := mb) (b1 := b1) (bl := bl) (br := br) (gr := gr) (n := n) (k := kk) (ds := ds') HR.out (by have := HL.out; omega) HML.out HCO.out HCL.out HN.out (by rw [passesR_len, HRL.out])
        (Small.fold0 HCO.out (fun s hs => (HOK.out s hs).m) HS.out hkk HLL.out) (by have := HSL.out; have := HL.out; unfold stepsL; omega) ⟨rfl, rfl, by simp [Act.eval]⟩
        (H1.out.grown HG.out (by intro e; injection e with e; exact x1 e)) (HBR.out.grown HG.out (by intro e; injection e with e; exact x2 e)) ⟨HM.out.b.grown HG.out (by intro e; injection e with e; exact x0.b e), HM.out.h.grown HG.out x0.h, HM.out.s.grown HG.out x0.s, HM.out.m.grown HG.out x0.m⟩ (HC.out.grown HG.out x3) HRK.out x0 x1 x2 x3 ?_
      intro A1 W1 hF1 hG1 hR1 hD1
      have hz := HG.out.size
      have HM1 := Lib.hid (Marks.more HD'.out (s := W.heap.size + 1) (by omega) (by omega) (HD'.out.grown hG1 (Blk.noDef HRK.out)) hD1)
      have HG1 := Lib.hid (grown_tr HG.out hG1)
      have HR1 := Lib.hid hR1
      clear hG1 hR1 hD1
      obtain ⟨ρ, rfl, hρ⟩ := hF1.open_
      simp only [List.forall_mem_cons] at hρ
      obtain ⟨r0, r1, r2, r3, r51, r52, -⟩ := hρ
      simp only [lst, r0, r1, r2, r3, r51, r52]
      clear r0 r1 r2 r3 r51 r52 hF1
      go_wp2
      exact Handed.intro (n - (kk + 1)) (by omega) (HJ.out _ _ _ ⟨kk + 1, _, by omega, Nat.le_refl _, ⟨rfl, rfl, by simp [Act.eval]⟩, HM1.out, HG1.out, HR1.out⟩)
    · have HE := Lib.hid (show kk = n by omega)
      go_wp2
      have hr := HRK.out
      rw [HE.out] at hr
      exact HQ.out _ _ _ ⟨rfl, rfl, by simp [Act.eval]⟩ HD'.out HG.out hr
end Go.Proofs.YtafdbgielmlihaaDoor
/- market.closed, whole: it finds the closing of the least cost. -/
namespace Go.Proofs.YtafdbgielmlihaaDoor
open Go.RowKit Go.Shelf Go.Lib
set_option maxRecDepth 100000
set_option linter.unusedSimpArgs false

theorem grown_far {g mb : Nat} {w V W : World} (h : w.grownBy V (some mb)) (k : V.grownBy W (some g)) (hg : w.heap.size ≤ g) : w.grownBy W (some mb) :=
  ⟨k.os.trans h.os, k.tape.trans h.tape, k.output.trans h.output, Nat.le_trans h.size k.size, fun i hi hne => (k.block i (Nat.lt_of_lt_of_le hi h.size) (by intro e; injection e with e; omega)).trans (h.block i hi hne)⟩
theorem Blk.ne {W : World} {g g' : Nat} {t t' : TypeId} {cs cs' : Array Value} (h : Blk W g t cs) (h' : Blk W g' t' cs') (hne : t ≠ t') : g ≠ g' := by
  rintro rfl
  unfold Blk at h h'
  rw [h] at h'
  injection h' with h'
  injection h' with _ h' _
  exact hne h'
theorem Sl.lt {α : Type} {enc : α → List Value} {sz : Nat} {w : World} {a : Option Addr} {n c : Nat} {l : List α} (h : Sl enc sz w (.slice a n c) l) (h0 : 0 < l.length) : ∀ b o, a = some ⟨b, o, none⟩ → b < w.heap.size := by
  intro b o e
  obtain ⟨a', c', hv, hl, hc, hx⟩ := h
  injection hv with e1 e2 e3
  subst e1
  obtain ⟨b', o', hA, hb, -⟩ := hx h0
  rw [e] at hA
  injection hA with hA
  injection hA with hA _ _
  omega
/-- A fresh row of zeros; a fresh row; a fresh box. -/
def FreshI (B n : Nat) (v : Value) (W : World) : Prop := ∃ g, v = .slice (some ⟨g, 0, none⟩) n n ∧ B ≤ g ∧ RowI W g (List.replicate n 0)
theorem FreshI.ext {B n : Nat} {v : Value} {W W' : World} (h : FreshI B n v W) (e : Ext W W') : FreshI B n v W' := by
  obtain ⟨g, h1, h2, h3⟩ := h
  exact ⟨g, h1, h2, h3.ext e⟩
def RowV (B : Nat) (l : List Int) (v : Value) (W : World) : Prop := ∃ g, v = .slice (some ⟨g, 0, none⟩) l.length l.length ∧ B ≤ g ∧ RowI W g l
theorem RowV.ext {B : Nat} {l : List Int} {v : Value} {W W' : World} (h : RowV B l v W) (e : Ext W W') : RowV B l v W' := by
  obtain ⟨g, h1, h2, h3⟩ := h
  exact ⟨g, h1, h2, h3.ext e⟩
def FreshS (B : Nat) (v : Value) (W : World) : Prop := ∃ g, v = .pointer (some ⟨g, 0, none⟩) ∧ B ≤ g ∧ Blk W g 22 #[.slice none 0 0]
theorem FreshS.ext {B : Nat} {v : Value} {W W' : World} (h : FreshS B v W) (e : Ext W W') : FreshS B v W' := by
  obtain ⟨g, h1, h2, h3⟩ := h
  exact ⟨g, h1, h2, h3.ext e⟩
theorem info154x : (Tryd.prog.info? 154).map (fun i => (i.zero, i.size, i.bytes)) = some (some (.agg #[.bool false, .int .i64 0, .int .i64 0, .int .i64 0, .int .i64 0, .int .i64 0, .int .i64 0, .int .i64 0, .int .i64 0, .int .i64 0, .int .i64 0, .int .i64 0, .int .i64 0, .int .i64 0, .int .i64 0, .int .i64 0, .int .i64 0]), 17, 136) := by kernel_rfl
theorem run_makeR {n : Nat} (hn : n ≤ 100) (w : World) : (Instr.makeSlice 150 (.int .i64 (n : Int)) (.int .i64 (n : Int))).run Tryd.prog w = .ok (.slice (some ⟨w.heap.size, 0, none⟩) n n) (w.alloc (.cells ((List.replicate n zeroR).flatMap encR).toArray 154)) := by
  obtain ⟨i0, hi, hz0, hz1, hz2⟩ := info_parts info154x
  have h := run_make (P := Tryd.prog) w 150 154 i0 _ Tryd.underlying150 hi hz0 .i64 .i64 (n : Int) (n : Int) (by omega) (Int.le_refl _) (by rw [hz2]; omega) (by omega)
  rw [h, hz1]
  have hc : (Value.agg #[.bool false, .int .i64 0, .int .i64 0, .int .i64 0, .int .i64 0, .int .i64 0, .int .i64 0, .int .i64 0, .int .i64 0, .int .i64 0, .int .i64 0, .int .i64 0, .int .i64 0, .int .i64 0, .int .i64 0, .int .i64 0, .int .i64 0]).cells = (encR zeroR).toArray := by rfl
  have : madeCells (Value.agg #[.bool false, .int .i64 0, .int .i64 0, .int .i64 0, .int .i64 0, .int .i64 0, .int .i64 0, .int .i64 0, .int .i64 0, .int .i64 0, .int .i64 0, .int .i64 0, .int .i64 0, .int .i64 0, .int .i64 0, .int .i64 0, .int .i64 0]).cells ((n : Int).toNat * 17) = ((List.replicate n zeroR).flatMap encR).toArray := by
    rw [hc]
    have hf := enc_len encR_len (List.replicate n zeroR)
    rw [List.length_replicate] at hf
    apply Array.ext
    · rw [size_madeCells, List.size_toArray, hf]; rfl
    · intro i h1 h2
      rw [size_madeCells] at h1
      have hi' : i < n * 17 := by simpa using h1
      have e1 := flatMap_at encR_len (List.replicate n zeroR) (i / 17) zeroR (by rw [List.getElem?_replicate, if_pos (by omega)]) (i % 17) _ (List.getElem?_eq_getElem (by rw [encR_len]; omega))
      rw [show i / 17 * 17 + i % 17 = i by omega, List.getElem?_eq_getElem (by rw [hf]; exact hi')] at e1
      injection e1 with e1
      simp only [List.getElem_toArray]
      rw [e1]
      have e17 : (encR zeroR).length = 17 := encR_len _
      simp [madeCells, e17, Nat.mod_lt]
  rw [this]
  rfl
theorem LR.below {bl br gl gr n : Nat} {left : List Int} {R : List Rch} {w W : World} (h : LR bl br gl gr n left R w) (e : Ext w W) : LR bl br gl gr n left R W := h.ext e
def ordR (R : List Rch) (x y : Int) : Int := match R[x.toNat]?, R[y.toNat]? with
  | some a, some b => cmpL a.cost b.cost
  | _, _ => 0
/-- What closed leaves. -/
def ClosedP (c : Chn) (f : Nat → Int) (mb : Nat) (hv sv cv : Value) (w : World) (e : Ending) (w' : World) : Prop :=
  ∃ gm m, (∃ v, e = .returned v) ∧ w.grownBy w' (some mb) ∧ Blk w' mb 112 #[hv, sv, .slice (some ⟨gm, 0, none⟩) m.length m.length, cv] ∧ w.heap.size ≤ gm ∧ RowI w' gm m ∧ Opt (salsAt c f) (balesOf c) m
end Go.Proofs.YtafdbgielmlihaaDoor
/- market.closed: the walk. -/
namespace Go.Proofs.YtafdbgielmlihaaDoor
open Go.RowKit Go.Shelf Go.Lib
set_option maxRecDepth 100000
set_option linter.unusedSimpArgs false

/-- Memory between two bales. -/
structure ClW (w : World) (mb b1 bl gm gl : Nat) (A : Option Addr) (n cp : Nat) (A2 : Option Addr) (n2 cp2 : Nat) (Ac : Option Addr) (nc cc : Nat) (M left : List Int) (ds : List Deferred) (W : World) : Prop where
  g : w.grownBy W (some mb)
  d : Marks w.heap.size W ds
  m1 : Blk W b1 109 #[.pointer (some ⟨mb, 0, none⟩)]
  mb : Blk W mb 112 #[.slice A n cp, .slice A2 n2 cp2, .slice (some ⟨gm, 0, none⟩) M.length M.length, .slice Ac nc cc]
  rm : RowI W gm M
  bl : Blk W bl 22 #[.slice (some ⟨gl, 0, none⟩) n n]
  rl : RowI W gl left
section
variable {w : World} {mb b1 bl gm gl : Nat} {A : Option Addr} {n cp : Nat} {A2 : Option Addr} {n2 cp2 : Nat} {Ac : Option Addr} {nc cc : Nat} {M left : List Int} {ds : List Deferred} {V W : World}
theorem ClW.ext (h : ClW w mb b1 bl gm gl A n cp A2 n2 cp2 Ac nc cc M left ds V) (e : Ext V W) : ClW w mb b1 bl gm gl A n cp A2 n2 cp2 Ac nc cc M left ds W :=
  ⟨grown_ext h.g e, h.d.ext e, h.m1.ext e, h.mb.ext e, h.rm.ext e, h.bl.ext e, h.rl.ext e⟩
theorem ClW.grown {g : Nat} (h : ClW w mb b1 bl gm gl A n cp A2 n2 cp2 Ac nc cc M left ds V) (k : V.grownBy W (some g)) (hg : w.heap.size ≤ g) (hd : ∀ l, V.heap[g]? ≠ some (Obj.deferred l)) (x1 : b1 ≠ g) (x2 : mb ≠ g) (x3 : gm ≠ g) (x4 : bl ≠ g) (x5 : gl ≠ g) :
    ClW w mb b1 bl gm gl A n cp A2 n2 cp2 Ac nc cc M left ds W :=
  ⟨grown_far h.g k hg, h.d.grown k hd, h.m1.grown k (by intro e; injection e with e; exact x1 e), h.mb.grown k (by intro e; injection e with e; exact x2 e), Blk.grown h.rm k (by intro e; injection e with e; exact x3 e), h.bl.grown k (by intro e; injection e with e; exact x4 e), Blk.grown h.rl k (by intro e; injection e with e; exact x5 e)⟩
theorem ClW.put (h : ClW w mb b1 bl gm gl A n cp A2 n2 cp2 Ac nc cc M left ds V) (hg : w.heap.size ≤ gl) (x1 : b1 ≠ gl) (x2 : mb ≠ gl) (x3 : gm ≠ gl) (x4 : bl ≠ gl) (i : Nat) (y : Int) :
    ClW w mb b1 bl gm gl A n cp A2 n2 cp2 Ac nc cc M (left.set i y) ds (V.setCell ⟨gl, i, none⟩ (.int .i64 y)) :=
  ⟨grown_far h.g (grown_set (World.grownBy.refl V (some gl)) (p := ⟨gl, i, none⟩) (.inl rfl) _) hg, h.d.setCell (p := ⟨gl, i, none⟩) ⟨_, _, _, h.rl⟩ _, h.m1.far x1 _, h.mb.far x2 _, h.rm.far x3 _, h.bl.far x4 _, h.rl.set _ _⟩
theorem ClW.moves {M' : List Int} (h : ClW w mb b1 bl gm gl A n cp A2 n2 cp2 Ac nc cc M left ds V) (k : V.grownBy W (some gm)) (hg : w.heap.size ≤ gm) (x1 : b1 ≠ gm) (x2 : mb ≠ gm) (x4 : bl ≠ gm) (x5 : gl ≠ gm) (hM : RowI W gm M') (hl : M'.length = M.length) :
    ClW w mb b1 bl gm gl A n cp A2 n2 cp2 Ac nc cc M' left ds W :=
  ⟨grown_far h.g k hg, h.d.grown k (Blk.noDef h.rm), h.m1.grown k (by intro e; injection e with e; exact x1 e), by rw [hl]; exact h.mb.grown k (by intro e; injection e with e; exact x2 e), hM, h.bl.grown k (by intro e; injection e with e; exact x4 e), Blk.grown h.rl k (by intro e; injection e with e; exact x5 e)⟩
end
theorem inv_bd {c : Chn} (hR : Right c) (hs : c.sales.length ≤ 11) {f : Nat → Int} {M left : List Int} (h : Inv0 c f M left) : (∀ y ∈ M, 0 ≤ y ∧ y ≤ 9) ∧ ∀ y ∈ left, -1000 ≤ y ∧ y ≤ 1000 := by
  have hM : ∀ y ∈ M, 0 ≤ y ∧ y ≤ 9 := by
    intro y hy
    obtain ⟨i, hi⟩ := List.getElem?_of_mem hy
    have hl := feas_len h.F
    obtain ⟨x, hx⟩ : ∃ x, (salsAt c f)[i]? = some x := ⟨_, List.getElem?_eq_getElem (by have := (List.getElem?_eq_some_iff.1 hi).1; omega)⟩
    have h1 := feas_get h.F i x y hx hi
    have h2 := at_cap hR f x (List.mem_of_getElem? hx)
    omega
  refine ⟨hM, fun y hy => ?_⟩
  rw [h.l] at hy
  unfold leftL at hy
  obtain ⟨v, -, rfl⟩ := List.mem_map.1 hy
  unfold leftI
  have hlM : M.length = c.sales.length := by rw [feas_len h.F, at_len]
  have h1 := net_bd (B := 9) v (by decide) (salsAt c f) M fun z hz => by have := hM z hz; omega
  have h2 := net_bd (B := 9) v (by decide) (salsAt c f) (balesOf c) fun z hz => by
    unfold balesOf at hz
    obtain ⟨x, hx, rfl⟩ := List.mem_map.1 hz
    have := (hR.sale x hx).2.2.2.1
    omega
  rw [bales_len] at h2
  omega
theorem candTo_of {left : List Int} {R : List Rch} {k i : Nat} {n : Int} {r : Rch} (hi : i < k) (h1 : left[i]? = some n) (h2 : R[i]? = some r) (h3 : 0 < n) (h4 : r.is = true) : (i : Int) ∈ candTo left R k := by
  unfold candTo
  refine List.mem_map.2 ⟨i, List.mem_filter.2 ⟨by simpa using hi, ?_⟩, rfl⟩
  unfold cand
  rw [h1, h2]
  simp [h3, h4]
theorem walked_length (L : List Arc) : ∀ (m : List Int), (walked m L).length = m.length := by
  induction L with
  | nil => intro m; rfl
  | cons a L ih =>
    intro m
    show (walked (stepM m a) L).length = _
    rw [ih]
    unfold stepM
    split <;> exact bump_len _ _ _

set_option maxHeartbeats 8000000 in
theorem closed_any {c : Chn} {f : Nat → Int} {C : List (List Int)} {mb : Nat} {A : Option Addr} {n cp : Nat} {A2 : Option Addr} {n2 cp2 : Nat} {Ac : Option Addr} {nc cc : Nat} {mv0 : Value} {w : World}
    (hR : Right c) (hs11 : c.sales.length ≤ 11) (hCo : Costs f C) (hCl : C.length = c.sales.length) (hf : ∀ i, 0 ≤ f i)
    (hM : Blk w mb 112 #[.slice A n cp, .slice A2 n2 cp2, mv0, .slice Ac nc cc]) (hh : SlI w (.slice A n cp) c.houses) (hs : SlL w (.slice A2 n2 cp2) c.sales) (hC : SlC w (.slice Ac nc cc) C)
    (y1 : 0 < c.houses.length → ∀ b o, A = some ⟨b, o, none⟩ → b ≠ mb) (y2 : 0 < c.sales.length → ∀ b o, A2 = some ⟨b, o, none⟩ → b ≠ mb) (y3 : 0 < C.length → ∀ b o, Ac = some ⟨b, o, none⟩ → b ≠ mb) :
    Calls Tryd.prog 87 #[.pointer (some ⟨mb, 0, none⟩)] w (ClosedP c f mb (.slice A n cp) (.slice A2 n2 cp2) (.slice Ac nc cc) w) := by
  obtain ⟨A', n', cp', e2, hn, hlc, hcm⟩ := hh.form
  injection e2 with e2 e3 e4
  subst e2 e3 e4
  obtain ⟨A', n', cp', e2, hn2, hlc2, hcm2⟩ := hs.form
  injection e2 with e2 e3 e4
  subst e2 e3 e4
  have hn6 : n ≤ 6 := by have := hR.h6; have := hn.out; omega
  have hn11 : n2 ≤ 11 := by have := hn2.out; omega
  have HR := Lib.hid hR; have HS11 := Lib.hid hs11; have HCO := Lib.hid hCo; have HCL := Lib.hid hCl; have HF0 := Lib.hid hf; have HM := Lib.hid hM; have HH := Lib.hid hh; have HS := Lib.hid hs; have HC := Lib.hid hC
  have hmk := fun w => run_makeI (n := n2) (by omega) w
  clear hR hs11 hCo hCl hf hM hh hs hC
  refine calls_of_wp_marks Tryd.func87 rfl ?_
  simp only [Tryd.ntmps87, List.size_toArray, List.length_cons, List.length_nil, Nat.reduceAdd, Nat.reduceSub, Array.replicate_succ, Array.replicate_zero, List.push_toArray, List.append_toArray, List.nil_append, List.cons_append]
  go_wp2
  obtain ⟨w1, hw1⟩ : ∃ w1, w1 = w.alloc (.cells #[.pointer (some ⟨mb, 0, none⟩)] 109) := ⟨_, rfl⟩
  have E1 := Lib.hid (show Ext w w1 from hw1 ▸ Ext.al _ _)
  have B1 := Lib.hid (show Blk w1 w.heap.size 109 #[.pointer (some ⟨mb, 0, none⟩)] from hw1 ▸ Blk.new _ _ _)
  have Z1 := Lib.hid (show w1.heap.size = w.heap.size + 1 by rw [hw1]; simp)
  simp only [← hw1]
  clear hw1
  have m0 := fun W (h : Ext w1 W) => (B1.out.ext h).c1
  have m1 := fun W (h : Ext w1 W) => (HM.out.ext (E1.out.trans h)).c4
  refine wp_region_tame_cut (fun W => Ext w1 W) (fun W W' => Ext W W') (by kernel_rfl) 154 rfl _ rfl (by decide +kernel) (by decide +kernel) (by decide +kernel) rfl (Ext.refl _).drew ?_
  simp only [List.dropLast]
  repeat (apply tame_q rfl; (intro ρ W hC hr hD; (obtain ⟨hrc, hrg, hrf, hrs⟩ := hr); (simp [go_sem] at hD); go_simp; first | exact ⟨⟨hC, Ext.refl _⟩, rfl⟩ | exact ⟨⟨hC, RS.refl _⟩, rfl⟩ | exact rfl); simp only [List.nil_append, List.cons_append])
  apply tame_v rfl (FreshI (w.heap.size + 1) n2) (fun v W W' _ hE h => h.ext hE)
  · intro ρ W hC hr hD
    obtain ⟨hrc, hrg, hrf, hrs⟩ := hr
    simp [go_sem] at hD
    go_simp
    exact ⟨⟨hC.alloc _, Ext.al _ _⟩, ⟨_, rfl, by have := hC.size; have := Z1.out; omega, RowI.new _ _⟩⟩
  simp only [List.nil_append, List.cons_append]
  repeat (apply tame_q rfl; (intro ρ W hC hr hD; (obtain ⟨hrc, hrg, hrf, hrs⟩ := hr); (simp [go_sem] at hD); go_simp; first | exact ⟨⟨hC, Ext.refl _⟩, rfl⟩ | exact ⟨⟨hC, RS.refl _⟩, rfl⟩ | exact rfl); simp only [List.nil_append, List.cons_append])
  refine tame_end_put rfl rfl (fun ρ W hC hr hF => ?_)
  simp [go_sem] at hF
  obtain ⟨f1, f2, f3, f4, f5, f6, f7, ⟨gm, f8, hgm, hRM⟩, f9, f10⟩ := hF
  simp only [putF, f1, f2, f3, f4, f5, f6, f7, f8, f9, f10, List.set_cons_succ, List.set_cons_zero]
  clear f1 f2 f3 f4 f5 f6 f7 f8 f9 f10 hr m0 m1 hmk
  have EW := Lib.hid (E1.out.trans hC)
  have BMW := Lib.hid (HM.out.ext EW.out)
  have B1W := Lib.hid (B1.out.ext hC)
  have RMW := Lib.hid hRM
  have x0 := BMW.out.c4
  have hbm := RMW.out.lt
  have NEM := Lib.hid (show gm ≠ mb from fun e => by have := HM.out.lt; omega)
  have ZW := Lib.hid (show w.heap.size + 1 ≤ W.heap.size by have := EW.out.size; have := Z1.out; have := hC.size; omega)
  clear hC hRM
  go_wp2
  obtain ⟨V, hV⟩ : ∃ V, V = W.setCell ⟨mb, 2, none⟩ (.slice (some ⟨gm, 0, none⟩) n2 n2) := ⟨_, rfl⟩
  have GV := Lib.hid (show w.grownBy V (some mb) from hV ▸ grown_set (ext_row EW.out _) (p := ⟨mb, 2, none⟩) (.inl rfl) _)
  have BMV := Lib.hid (show Blk V mb 112 #[.slice A n cp, .slice A2 n2 cp2, .slice (some ⟨gm, 0, none⟩) n2 n2, .slice Ac nc cc] by
    have := BMW.out.set_ 2 (.slice (some ⟨gm, 0, none⟩) n2 n2)
    rw [hV]; simpa using this)
  have B1V := Lib.hid (show Blk V w.heap.size 109 #[.pointer (some ⟨mb, 0, none⟩)] from hV ▸ B1W.out.far (by have := HM.out.lt; dsimp only; omega) _)
  have RMV := Lib.hid (show RowI V gm (List.replicate n2 0) from hV ▸ RMW.out.far NEM.out _)
  have ZV := Lib.hid (show w.heap.size + 1 ≤ V.heap.size ∧ gm < V.heap.size by rw [hV]; have := ZW.out; simp [World.setCell]; omega)
  simp only [← hV]
  clear hV x0 BMW B1W RMW EW
  have HHV := Lib.hid (HH.out.grown GV.out y1); have HSV := Lib.hid (HS.out.grown GV.out y2)
  have m0 := fun W (h : Ext V W) => (B1V.out.ext h).c1
  have m1 := fun W (h : Ext V W) => (BMV.out.ext h).c4
  refine wp_region_tame_cut (fun W => Ext V W) (fun W W' => Ext W W') (by kernel_rfl) 154 rfl _ rfl (by decide +kernel) (by decide +kernel) (by decide +kernel) rfl (Ext.refl _).drew ?_
  simp only [List.dropLast]
  repeat (apply tame_q rfl; (intro ρ W hC hr hD; (obtain ⟨hrc, hrg, hrf, hrs⟩ := hr); (simp [go_sem] at hD); go_simp; first | exact ⟨⟨hC, Ext.refl _⟩, rfl⟩ | exact ⟨⟨hC, RS.refl _⟩, rfl⟩ | exact rfl); simp only [List.nil_append, List.cons_append])
  apply tame_v rfl (fun v W => SlI W v (balesOf c)) (fun v W W' _ hE h => h.ext hE)
  · intro ρ W hC hr hD
    obtain ⟨hrc, hrg, hrf, hrs⟩ := hr
    simp [go_sem] at hD
    go_simp
    refine (f72_any c _ _ W (HHV.out.ext hC) (HSV.out.ext hC) (by have := HS11.out; omega)).mono ?_
    rintro e w' ⟨⟨v', rfl, ho⟩, hE⟩
    exact ⟨_, rfl, ⟨hC.trans hE, hE⟩, ho.sl (fun _ => rfl)⟩
  simp only [List.nil_append, List.cons_append]
  apply tame_v rfl (RowV V.heap.size (getsL c (balesOf c))) (fun v W W' _ hE h => h.ext hE)
  · intro ρ W hC hr hD
    obtain ⟨hrc, hrg, hrf, hrs⟩ := hr
    simp [go_sem] at hD
    have hbl : SlI W (ρ (.tmp 26)) (balesOf c) := hD.2
    have hz := hC.size
    clear m0 m1
    go_simp
    refine (mgets_any c (balesOf c) mb _ _ _ _ _ W (BMV.out.ext hC) (HHV.out.ext hC) (HSV.out.ext hC) hbl HR.out (by have := HS11.out; omega) (bales_len c) (fun y hy => ?_)).mono ?_
    · unfold balesOf at hy
      obtain ⟨x, hx, rfl⟩ := List.mem_map.1 hy
      have := (HR.out.sale x hx).2.2.2.1
      omega
    rintro e w' ⟨⟨g, rfl, hg, hr⟩, hE⟩
    exact ⟨_, rfl, ⟨hC.trans hE, hE⟩, ⟨g, rfl, by omega, hr⟩⟩
  simp only [List.nil_append, List.cons_append]
  apply tame_v rfl (FreshS V.heap.size) (fun v W W' _ hE h => h.ext hE)
  · intro ρ W hC hr hD
    obtain ⟨hrc, hrg, hrf, hrs⟩ := hr
    simp [go_sem] at hD
    go_simp
    exact ⟨⟨hC.alloc _, Ext.al _ _⟩, ⟨_, rfl, hC.size, Blk.new _ _ _⟩⟩
  simp only [List.nil_append, List.cons_append]
  refine tame_end_put rfl rfl (fun ρ W hC hr hF => ?_)
  simp [go_sem] at hF
  obtain ⟨f1, f2, f3, f4, f5, -, ⟨gl, f7, hgl, hRL⟩, ⟨bl, f8, hbl, hBL⟩⟩ := hF
  have HGN := Lib.hid (show (getsL c (balesOf c)).length = n by simp [getsL]; exact hn.out.symm)
  rw [HGN.out] at f7
  simp only [putF, f1, f2, f3, f4, f5, f7, f8, List.set_cons_succ, List.set_cons_zero]
  generalize ρ (Operand.tmp 26) = v26
  clear f1 f2 f3 f4 f5 f7 f8 hr m0 m1
  have NEB := Lib.hid (Blk.ne hBL hRL (by decide))
  have x0 := hBL.c1
  have RLW := Lib.hid hRL; have BLW := Lib.hid hBL; have EW := Lib.hid hC
  have HGL := Lib.hid hgl; have HBL := Lib.hid hbl
  clear hRL hBL hC hgl hbl
  go_wp2
  have NMB := Lib.hid (show mb ≠ bl from fun e => by have := HM.out.lt; have := ZV.out; have := HBL.out; omega)
  have NGM := Lib.hid (show gm ≠ gl from fun e => by have := ZV.out; have := HGL.out; omega)
  have NGB := Lib.hid (show gm ≠ bl from fun e => by have := ZV.out; have := HBL.out; omega)
  have NB1 := Lib.hid (show w.heap.size ≠ bl from fun e => by have := ZV.out; have := HBL.out; omega)
  have N1L := Lib.hid (show w.heap.size ≠ gl from fun e => by have := ZV.out; have := HGL.out; omega)
  have NML := Lib.hid (show mb ≠ gl from fun e => by have := HM.out.lt; have := ZV.out; have := HGL.out; omega)
  have N1M := Lib.hid (show w.heap.size ≠ gm from fun e => by omega)
  have W0 := Lib.hid (show ClW w mb w.heap.size bl gm gl A n cp A2 n2 cp2 Ac nc cc (List.replicate n2 0) (getsL c (balesOf c)) [] (W.setCell ⟨bl, 0, none⟩ (.slice (some ⟨gl, 0, none⟩) n n)) from by
    have hz := ZV.out
    have hbl := HBL.out
    refine ⟨grown_far (grown_ext GV.out EW.out) (grown_set (World.grownBy.refl W (some bl)) (p := ⟨bl, 0, none⟩) (.inl rfl) _) (by omega), trivial, (B1V.out.ext EW.out).far NB1.out _, ?_, ?_, ?_, ?_⟩
    · have := (BMV.out.ext EW.out).far (p := ⟨bl, 0, none⟩) NMB.out (.slice (some ⟨gl, 0, none⟩) n n)
      simpa using this
    · exact (RMV.out.ext EW.out).far NGB.out _
    · have := BLW.out.set_ 0 (.slice (some ⟨gl, 0, none⟩) n n)
      simpa using this
    · exact RLW.out.far (fun e => NEB.out e.symm) _)
  have I0 := Lib.hid (show Inv0 c f (List.replicate n2 0) (getsL c (balesOf c)) by have := inv_start HR.out HF0.out; rwa [← hn2.out] at this)
  clear x0
  refine wp_loop_ghost_k (fun g A' V => ∃ (ds : List Deferred) (M left : List Int), absS left ≤ g ∧ left.length = n ∧ M.length = n2 ∧ Fr 154 [(0, .pointer (some ⟨mb, 0, none⟩)), (1, .pointer (some ⟨w.heap.size, 0, none⟩)), (2, .pointer (some ⟨bl, 0, none⟩))] ds A' ∧
    ClW w mb w.heap.size bl gm gl A n cp A2 n2 cp2 Ac nc cc M left ds V ∧ Inv0 c f M left) (absS (getsL c (balesOf c))) ?_ ?_
  · exact ⟨[], List.replicate n2 0, getsL c (balesOf c), Nat.le_refl _, HGN.out, by simp, ⟨rfl, rfl, by simp [Act.eval]⟩, W0.out, I0.out⟩
  clear W0 I0 BMV B1V RMV GV HHV HSV RLW BLW EW E1 B1 Z1 HGN NEM
  rintro g A' V0 ⟨ds, M, left, hg, hll, hml, hF, hW, hI⟩ J K hJ hK
  have HJ := Lib.hid hJ; have HLL := Lib.hid hll; have HML := Lib.hid hml; have HW := Lib.hid hW; have HI := Lib.hid hI
  obtain ⟨ρ, rfl, hρ⟩ := hF.open_
  simp only [List.forall_mem_cons] at hρ
  obtain ⟨r0, r1, r2, -⟩ := hρ
  simp only [lst, Nat.reduceAdd, r0, r1, r2]
  clear r0 r1 r2 hF hJ hll hml hW hI
  have x0 := HW.out.bl.c1
  have hmk := fun w => run_makeR (n := n) (by omega) w
  go_upto_block 2 with (fail)
  obtain ⟨V1, hV1⟩ : ∃ V1, V1 = (V0.alloc (.cells ((List.replicate n zeroR).flatMap encR).toArray 154)).alloc (.cells #[.slice (some ⟨V0.heap.size, 0, none⟩) n n] 150) := ⟨_, rfl⟩
  have E1 := Lib.hid (show Ext V0 V1 from hV1 ▸ (Ext.al _ _).alloc _)
  have RR1 := Lib.hid (show RowR V1 V0.heap.size (List.replicate n zeroR) from hV1 ▸ (Blk.new _ _ _).alloc _)
  have BR1 := Lib.hid (show Blk V1 (V0.heap.size + 1) 150 #[.slice (some ⟨V0.heap.size, 0, none⟩) n n] from hV1 ▸ Blk.at_ (by simp))
  simp only [← hV1]
  clear hV1 x0 hmk
  have W1 := Lib.hid (HW.out.ext E1.out)
  have hzw := HW.out.g.size
  have HZW := Lib.hid hzw
  obtain ⟨q1, q2, q3, q4, q5⟩ : w.heap.size < V0.heap.size ∧ mb < V0.heap.size ∧ gm < V0.heap.size ∧ bl < V0.heap.size ∧ gl < V0.heap.size := ⟨HW.out.m1.lt, HW.out.mb.lt, HW.out.rm.lt, HW.out.bl.lt, HW.out.rl.lt⟩
  refine init_wp (left := left) (mb := mb) (b1 := w.heap.size) (bl := bl) (br := V0.heap.size + 1) (gl := gl) (gr := V0.heap.size) (n := n) HLL.out (by omega) ⟨rfl, rfl, by simp [Act.eval]⟩ W1.out.bl BR1.out W1.out.rl (by rw [initTo_zero, HLL.out]; exact RR1.out) (by omega) (by omega) (by omega) ?_
  intro A1 U1 hF1 hG1 hR1
  have W2 := Lib.hid (W1.out.grown hG1 hzw (Blk.noDef RR1.out) (by omega) (by omega) (by omega) (by omega) (by omega))
  have BR2 := Lib.hid (BR1.out.grown hG1 (by intro e; injection e with e; omega))
  have RR2 := Lib.hid hR1
  have hu1 := hG1.size
  have hu0 := E1.out.size
  have HU := Lib.hid (show V0.heap.size ≤ U1.heap.size by omega)
  clear hG1 hR1 W1 E1 BR1 RR1 hu1 hu0
  obtain ⟨ρ, rfl, hρ⟩ := hF1.open_
  simp only [List.forall_mem_cons] at hρ
  obtain ⟨r0, r1, r2, r3, -⟩ := hρ
  simp only [lst, Nat.reduceAdd, r0, r1, r2, r3]
  clear r0 r1 r2 r3 hF1
  have x0 := BR2.out.c1
  go_upto_block 4 with (fail)
  clear x0
  have HHU := Lib.hid (HH.out.grown W2.out.g y1); have HSU := Lib.hid (HS.out.grown W2.out.g y2); have HCU := Lib.hid (HC.out.grown W2.out.g y3)
  refine passes_wp (B := w.heap.size) (c := c) (M := M) (f := f) (C := C) (R := initR left) (mb := mb) (b1 := w.heap.size) (bl := bl) (br := V0.heap.size + 1) (gr := V0.heap.size) (n := n) (ds := ds) HR.out (by have := HS11.out; omega) (by rw [HML.out, hn2.out]) HCO.out HCL.out hn.out (by rw [initR_eq, List.length_map, HLL.out]) (initR_small left) ?_ ⟨rfl, rfl, by simp [Act.eval]⟩
    W2.out.m1 BR2.out ⟨W2.out.mb, HHU.out, HSU.out, W2.out.rm.sl (by unfold maxLen; rw [HML.out]; omega)⟩ HCU.out RR2.out W2.out.d (by have := HU.out; omega) ⟨by omega, ?_, ?_, ?_⟩ (by omega) (by omega) ?_ ?_
  · have h1 := steps_count c c.sales M 0
    have h2 : n * (stepsL c M).length ≤ 6 * 22 := Nat.mul_le_mul hn6 (by unfold stepsL; have := HS11.out; omega)
    omega
  · intro h0 b o e
    have := Sl.lt HH.out h0 b o e
    show b ≠ _
    omega
  · intro h0 b o e
    have := Sl.lt HS.out h0 b o e
    show b ≠ _
    omega
  · intro h0 b o e
    injection e with e
    injection e with e _ _
    show b ≠ _
    omega
  · intro h0 b o e
    have := Sl.lt HC.out h0 b o e
    omega
  intro A2' U2 ds2 hF2 hD2 hG2 hR2
  have W3 := Lib.hid (show ClW w mb w.heap.size bl gm gl A n cp A2 n2 cp2 Ac nc cc M left ds2 U2 from by
    have h := W2.out.grown hG2 hzw (Blk.noDef RR2.out) (by omega) (by omega) (by omega) (by omega) (by omega)
    exact ⟨h.g, hD2, h.m1, h.mb, h.rm, h.bl, h.rl⟩)
  have BR3 := Lib.hid (BR2.out.grown hG2 (by intro e; injection e with e; omega))
  have RR3 := Lib.hid hR2
  have HU2 := Lib.hid (show V0.heap.size ≤ U2.heap.size by have := hG2.size; have := HU.out; omega)
  have HCR := Lib.hid (inv_corr HR.out HCO.out HCL.out HS11.out HI.out)
  rw [← hn.out] at HCR
  have HSM := Lib.hid (Small.fold0 HCO.out (fun s hs => (stepsL_ok HR.out (m := M) (s := s) hs).m) (initR_small left) (Nat.le_refl n) (by
    have h1 := steps_count c c.sales M 0
    have h2 : n * (stepsL c M).length ≤ 6 * 22 := Nat.mul_le_mul hn6 (by unfold stepsL; have := HS11.out; omega)
    omega))
  have HOK := Lib.hid (OkR.passes (C := C) (fun s hs => stepsL_ok HR.out (m := M) hs) (OkR.init c left) n)
  have HRL := Lib.hid (show (passesR C (stepsL c M) n (initR left)).length = n by rw [passesR_len, initR_eq, List.length_map, HLL.out])
  clear hG2 hD2 hR2 W2 BR2 RR2 HHU HSU HCU HU
  generalize passesR C (stepsL c M) n (initR left) = R at RR3 HCR HSM HOK HRL
  obtain ⟨σ, hσ⟩ : ∃ σ, bfOf (salsAt c f) n (balesOf c) M = σ := ⟨_, rfl⟩
  have HSG := Lib.hid hσ
  rw [hσ] at HCR
  clear hσ
  have L3 := Lib.hid (show LR bl (V0.heap.size + 1) gl V0.heap.size n left R U2 from ⟨by simpa using W3.out.bl.cell 0, by simpa using BR3.out.cell 0, W3.out.rl, RR3.out⟩)
  obtain ⟨ρ, rfl, hρ⟩ := hF2.open_
  simp only [List.forall_mem_cons] at hρ
  obtain ⟨r0, r1, r2, r3, -⟩ := hρ
  simp only [lst, Nat.reduceAdd, r0, r1, r2, r3]
  clear r0 r1 r2 r3 hF2
  go_wp2_with fail
  refine (firstI_any (gf := 110) (tf := 111) (xs := candTo left R n) (ord := ordR R) (enters_of Tryd.func110 (by kernel_rfl) rfl) (enters_of Tryd.func111 (by kernel_rfl) rfl)
    (closed1_seqs (bl := bl) (br := V0.heap.size + 1) (gl := gl) (gr := V0.heap.size) (by omega) HLL.out HRL.out (by have := HU2.out; omega) (by have := HU2.out; have := BR3.out.lt; omega) (by have := HU2.out; omega) (by have := HU2.out; omega) L3.out) ?_).mono ?_
  · intro x hx y hy W hE
    obtain ⟨i, rfl, hi, -, ra, -, hra, -, -⟩ := candTo_mem hx
    obtain ⟨j, rfl, hj, -, rb, -, hrb, -, -⟩ := candTo_mem hy
    have h1 := closed2_any W (L3.out.ext hE) HRL.out hra hrb (HSM.out ra (List.mem_of_getElem? hra)).1 (HSM.out rb (List.mem_of_getElem? hrb)).1
    have h2 : ordR R (i : Int) (j : Int) = cmpL ra.cost rb.cost := by unfold ordR; simp only [Int.toNat_natCast, hra, hrb]
    rw [h2]
    exact h1
  rintro e W ⟨rfl, hE⟩
  have W4 := Lib.hid (W3.out.ext hE)
  have BR4 := Lib.hid (BR3.out.ext hE)
  have RR4 := Lib.hid (show RowR W V0.heap.size R from RowE.ext RR3.out hE)
  have HU4 := Lib.hid (show V0.heap.size ≤ W.heap.size by have := hE.size; have := HU2.out; omega)
  clear hE W3 BR3 RR3 L3 HU2
  cases hfo : firstO (ordR R) (candTo left R n) with
  | none =>
    have HNO := Lib.hid (firstO_none _ _ hfo)
    clear hfo
    simp only [Option.getD, Option.isSome]
    go_wp2
    refine leave_marks (B := w.heap.size) (u := .returning) (by simp) ds2 W W4.out.d fun W' hT => ?_
    have hz := ZV.out
    refine ⟨_, results_none rfl _ _ _, gm, M, ⟨_, rfl⟩, ⟨hT.os.trans W4.out.g.os, hT.tape.trans W4.out.g.tape, hT.output.trans W4.out.g.output, by rw [hT.size]; exact W4.out.g.size, fun i hi hne => (hT.block i (.inl hi)).trans (W4.out.g.block i hi hne)⟩, hT.blk W4.out.mb, by omega, hT.blk W4.out.rm, ?_⟩
    refine inv_end HR.out HI.out fun t y hy h0 => ?_
    have ht : t < n := by have := (List.getElem?_eq_some_iff.1 hy).1; have := HLL.out; omega
    obtain ⟨r, hr⟩ : ∃ r, R[t]? = some r := ⟨_, List.getElem?_eq_getElem (by have := HRL.out; omega)⟩
    rw [← hn.out, HSG.out, HCR.out.d t r hr]
    cases his : r.is with
    | false => rfl
    | true =>
      have := candTo_of ht hy hr h0 his
      rw [HNO.out] at this
      cases this
  | some x =>
    have hx := firstO_mem _ _ _ hfo
    obtain ⟨t, rfl, ht, y, rt, hy, hrt, hy0, his⟩ := candTo_mem hx
    clear hfo hx
    obtain ⟨hMb, hLb⟩ := inv_bd HR.out HS11.out HI.out
    have hyb := hLb y (List.mem_of_getElem? hy)
    have hd : σ.d t = some (digits 1000 rt.cost) := by rw [HCR.out.d t rt hrt, his]; rfl
    obtain ⟨k, r, z, hk, hr, hb, hpr, hne, hz, hz0, hI', hab⟩ := inv_step HR.out HI.out hy hy0 (by rw [← hn.out, HSG.out]; exact hd)
    rw [← hn.out, HSG.out] at hb hpr hI'
    rw [← hn.out] at hk hr
    have hzb := hLb z (List.mem_of_getElem? hz)
    have HY := Lib.hid hy; have HRT := Lib.hid hrt; have HB := Lib.hid hb; have HPR := Lib.hid hpr; have HZ := Lib.hid hz; have HI' := Lib.hid hI'; have HAB := Lib.hid hab; have HMB := Lib.hid hMb; have HNE := Lib.hid hne
    clear hMb hLb hd hb hpr hz hI' hab hy hrt his hne
    have NMM := Lib.hid (show gm ≠ mb from Blk.ne W4.out.rm W4.out.mb (by decide))
    have x0 := W4.out.bl.c1
    have x1 := W4.out.rl.cell HY.out
    have xf := W4.out.rl.frozen
    have xl := W4.out.rl.lt
    have x2 := BR4.out.c1
    obtain ⟨x3, x4, x5, x6⟩ := RowR.by' RR4.out HRT.out
    have hrl := RowE.lt RR4.out
    have htz : (t : Int) < (n : Int) := by omega
    have hrz : (r : Int) < (n : Int) := by omega
    have hw1 : IntKind.i64.wrap (y - 1) = y - 1 := by rw [IntKind.wrap_i64]; omega
    have hw2 : IntKind.i64.wrap (z + 1) = z + 1 := by rw [IntKind.wrap_i64]; omega
    have n1 : ¬ V0.heap.size = gl := by omega
    have n2' : ¬ V0.heap.size + 1 = gl := by omega
    have n3 : ¬ bl = gl := NEB.out
    have hbrl : V0.heap.size + 1 < W.heap.size := BR4.out.lt
    have hbll : bl < W.heap.size := W4.out.bl.lt
    have HZL := Lib.hid (show w.heap.size ≤ gm ∧ w.heap.size ≤ gl by have := ZV.out; have := HGL.out; omega)
    simp only [Option.getD, Option.isSome]
    go_upto_block 8 with (fail)
    obtain ⟨V5, hV5⟩ : ∃ V5, V5 = (W.setCell ⟨gl, t, none⟩ (.int .i64 (y - 1))).alloc (.cells #[.int .i64 rt.by'.src, .int .i64 rt.by'.dst, .int .i64 rt.by'.sale, .int .i64 rt.by'.more] 152) := ⟨_, rfl⟩
    have W5 := Lib.hid (show ClW w mb w.heap.size bl gm gl A n cp A2 n2 cp2 Ac nc cc M (left.set t (y - 1)) ds2 V5 from hV5 ▸ (W4.out.put HZL.out.2 N1L.out NML.out NGM.out NEB.out t (y - 1)).ext (Ext.al _ _))
    have BR5 := Lib.hid (show Blk V5 (V0.heap.size + 1) 150 #[.slice (some ⟨V0.heap.size, 0, none⟩) n n] from hV5 ▸ (BR4.out.far n2' _).alloc _)
    have RR5 := Lib.hid (show RowR V5 V0.heap.size R from hV5 ▸ RowE.alloc (RowE.far RR4.out n1 _) _)
    have B05 := Lib.hid (show Blk V5 W.heap.size 152 #[.int .i64 rt.by'.src, .int .i64 rt.by'.dst, .int .i64 rt.by'.sale, .int .i64 rt.by'.more] from hV5 ▸ Blk.at_ (by simp [World.setCell]))
    simp only [← hV5]
    clear hV5 x0 x1 xf xl x2 x3 x4 x5 x6
    refine back_wp (c := c) (M := M) (f := f) (R := R) (σ := σ) (mb := mb) (b1 := w.heap.size) (bl := bl) (br := V0.heap.size + 1) (gr := V0.heap.size) (gm := gm) (n := n) (k := k) (t := t) (r := r) (b0 := W.heap.size) (rt := rt) (ds := ds2) (by rw [HML.out, hn2.out]) (fun z hz => by have := HMB.out z hz; omega) HCR.out HOK.out hn.out HB.out HPR.out (by omega) ⟨rfl, rfl, by simp [Act.eval]⟩
      W5.out.m1 BR5.out W5.out.mb W5.out.rm RR5.out HRT.out B05.out (fun e => N1M.out e.symm) (by omega) NMM.out (by omega) (by have := W4.out.rm.lt; omega) ?_
    intro A3 U3 hF3 hG3 hR3
    have W6 := Lib.hid (W5.out.moves hG3 HZL.out.1 N1M.out (fun e => NMM.out e.symm) (fun e => NGB.out e.symm) (fun e => NGM.out e.symm) hR3 (walked_length _ _))
    clear hG3 hR3 W5 BR5 RR5 B05
    obtain ⟨ρ, rfl, hρ⟩ := hF3.open_
    simp only [List.forall_mem_cons] at hρ
    obtain ⟨r0, r1, r2, r3, r8, -⟩ := hρ
    simp only [lst, Nat.reduceAdd, r0, r1, r2, r3, r8]
    clear r0 r1 r2 r3 r8 hF3
    have x0 := W6.out.bl.c1
    have x1 := W6.out.rl.cell (i := r) (x := z) (by rw [List.getElem?_set, if_neg HNE.out]; exact HZ.out)
    have xf := W6.out.rl.frozen
    have xl := W6.out.rl.lt
    go_wp2
    refine Handed.intro (absS ((left.set t (y - 1)).set r (z + 1))) (by have := HAB.out; omega) (HJ.out _ _ _ ⟨ds2, _, _, Nat.le_refl _, by simp [HLL.out], by rw [walked_length, HML.out], ⟨rfl, rfl, by simp [Act.eval]⟩, W6.out.put HZL.out.2 N1L.out NML.out NGM.out NEB.out r (z + 1), HI'.out⟩)
end Go.Proofs.YtafdbgielmlihaaDoor
/- The costs of a closing: the program's closing. -/
namespace Go.Proofs.YtafdbgielmlihaaDoor
open Go.RowKit Go.Shelf Go.Lib
set_option maxRecDepth 100000
set_option linter.unusedSimpArgs false

def costL (i : Nat) : List Int := ([1, 0, 0, 0, 0, 0, 0, 0, 0, 0, 0, 0] : List Int).set (1 + i) 1
theorem costL_len (i : Nat) : (costL i).length = 12 := by simp [costL]
theorem costs_prog (N : Nat) (hN : N ≤ 11) : Costs progF ((List.range N).map costL) := by
  refine ⟨fun i d h => ?_⟩
  rw [List.getElem?_map] at h
  obtain ⟨j, hj, rfl⟩ := Option.map_eq_some_iff.1 h
  obtain ⟨hl, e⟩ := List.getElem?_eq_some_iff.1 hj
  simp at hl e
  subst e
  have h11 : i < 11 := by omega
  refine ⟨costL_len i, ?_, ?_⟩
  · intro x hx
    unfold costL at hx
    rcases List.mem_or_eq_of_mem_set hx with h | h
    · simp at h; omega
    · omega
  · match i, h11 with
    | 0, _ => decide +kernel
    | 1, _ => decide +kernel
    | 2, _ => decide +kernel
    | 3, _ => decide +kernel
    | 4, _ => decide +kernel
    | 5, _ => decide +kernel
    | 6, _ => decide +kernel
    | 7, _ => decide +kernel
    | 8, _ => decide +kernel
    | 9, _ => decide +kernel
    | 10, _ => decide +kernel
theorem progF_pos (i : Nat) : 0 ≤ progF i := by
  unfold progF
  have h1 : (0 : Int) < 1000 ^ 11 := Int.pow_pos (by decide)
  have h2 : (0 : Int) < 1000 ^ (10 - i) := Int.pow_pos (by decide)
  omega
theorem enc12_1 : ∀ x, ∀ u ∈ enc12 x, u.oneCell' = true := by
  intro x u hu
  unfold enc12 at hu
  obtain ⟨i, _, rfl⟩ := List.mem_map.1 hu
  rfl
theorem info125x : (Tryd.prog.info? 125).map (fun i => (i.zero, i.size, i.bytes)) = some (some (.agg #[.int .i64 0, .int .i64 0, .int .i64 0, .int .i64 0, .int .i64 0, .int .i64 0, .int .i64 0, .int .i64 0, .int .i64 0, .int .i64 0, .int .i64 0, .int .i64 0]), 12, 96) := by kernel_rfl
/-- While a cost is appended. -/
structure CApp (base : Nat) (w6 : World) (bx : Nat) (x : List Int) (Ci : List (List Int)) (cv : Value) (V : World) : Prop where
  b : Below base w6 V
  x : Blk V bx 125 (enc12 x).toArray
  c : NewF enc12 12 125 base Ci cv V
theorem CApp.ext {base : Nat} {w6 : World} {bx : Nat} {x : List Int} {Ci : List (List Int)} {cv : Value} {V V' : World} (h : CApp base w6 bx x Ci cv V) (e : Ext V V') (hb : base ≤ V.heap.size) : CApp base w6 bx x Ci cv V' :=
  ⟨h.b.trans (e.mono hb), h.x.ext e, ⟨h.c.1.ext e, h.c.2⟩⟩
end Go.Proofs.YtafdbgielmlihaaDoor
/- chain.closing. -/
namespace Go.Proofs.YtafdbgielmlihaaDoor
open Go.RowKit Go.Shelf Go.Lib
set_option maxRecDepth 100000
set_option linter.unusedSimpArgs false

/-- What closing leaves: a market whose moves are the closing. -/
def ClosingP (c : Chn) (l : List Int) (w : World) (e : Ending) (w' : World) : Prop :=
  ∃ mb gm hv sv cv, e = .returned (.pointer (some ⟨mb, 0, none⟩)) ∧ Ext w w' ∧ w.heap.size ≤ mb ∧ w.heap.size ≤ gm ∧ Blk w' mb 112 #[hv, sv, .slice (some ⟨gm, 0, none⟩) c.sales.length c.sales.length, cv] ∧ RowI w' gm l ∧ SlI w' hv c.houses ∧ SlL w' sv c.sales

set_option maxHeartbeats 4000000 in
theorem closing_any (c : Chn) (l : List Int) (hv sv : Value) (w : World) (hcl : IsClose c l) (hR : Right c) (hs11 : c.sales.length ≤ 11) (hh : SlI w hv c.houses) (hs : SlL w sv c.sales) :
    Calls Tryd.prog 90 #[valC hv sv] w (ClosingP c l w) := by
  have HCLO := Lib.hid hcl; have HR := Lib.hid hR; have HS11 := Lib.hid hs11; have HH := Lib.hid hh; have HS := Lib.hid hs
  obtain ⟨A, n, cp, rfl, hn, hlc, hcm⟩ := hh.form
  obtain ⟨A2, n2, cp2, rfl, hn2, hlc2, hcm2⟩ := hs.form
  have hn11 : n2 ≤ 11 := by have := hn2.out; omega
  clear hh hs hR hs11 hcl
  dsimp only [valC]
  go_enter Tryd.func90, Tryd.ntmps90
  go_wp2
  go_loopg [12] n2 (fun gg s wr => ∃ (kk : Nat) (cvv : Value), kk ≤ n2 ∧ n2 - kk ≤ gg ∧ s = .int .i64 kk ∧ Aside (Blk wr w.heap.size 25 #[.slice A n cp, .slice A2 n2 cp2]) ∧ Aside (Blk wr (w.heap.size + 1) 112 #[.slice A n cp, .slice A2 n2 cp2, .slice none 0 0, cvv]) ∧
    Aside (NewF enc12 12 125 (w.heap.size + 2) ((List.range kk).map costL) cvv wr) ∧ Aside (Ext w wr))
  case atStart => exact ⟨0, .slice none 0 0, Nat.zero_le _, by omega, rfl, (Blk.new _ _ _).alloc _, Blk.at_ (by simp), ⟨Own.nil _ _, none, 0, rfl, fun _ => rfl⟩, (Ext.al _ _).alloc _⟩
  case round =>
    obtain ⟨kk, cvv, hkk, hg, rfl, B0, BM, CN, EX⟩ := hrel
    by_cases hlt : kk < n2
    · have hltz : (kk : Int) < (n2 : Int) := by omega
      have h12 : 1 + (kk : Int) < 12 := by omega
      have h12n : 1 + kk < 12 := by omega
      have hto : (1 + (kk : Int)).toNat = 1 + kk := by omega
      have h0z : (0 : Int) ≤ 1 + (kk : Int) := by omega
      go_wp2
      obtain ⟨w6, hw6⟩ : ∃ w6, w6 = wr.alloc (.cells ([Value.int .i64 1, .int .i64 0, .int .i64 0, .int .i64 0, .int .i64 0, .int .i64 0, .int .i64 0, .int .i64 0, .int .i64 0, .int .i64 0, .int .i64 0, .int .i64 0].set (1 + kk) (.int .i64 1)).toArray 125) := ⟨_, rfl⟩
      have E6 := Lib.hid (show Ext wr w6 from hw6 ▸ Ext.al _ _)
      have BX6 := Lib.hid (show Blk w6 wr.heap.size 125 (enc12 (costL kk)).toArray from by
        rw [enc12_eq (costL_len kk), hw6]
        unfold costL
        rw [List.map_set]
        exact Blk.new _ _ _)
      simp only [← hw6]
      clear hw6
      have hz0 := EX.out.size
      have hz1 := B0.out.lt
      have hz2 := BM.out.lt
      have hz3 := E6.out.size
      have HB6 := Lib.hid (show w.heap.size + 2 ≤ w6.heap.size by omega)
      have BM6 := Lib.hid (BM.out.ext E6.out)
      have CC6 := Lib.hid (show CApp (w.heap.size + 2) w6 wr.heap.size (costL kk) ((List.range kk).map costL) cvv w6 from ⟨Below.refl _ _, BX6.out, ⟨CN.out.1.ext E6.out, CN.out.2⟩⟩)
      obtain ⟨q0, q1, q2, q3, q4, q5, q6, q7, q8, q9, q10, q11, hqe⟩ := twelve (show ((costL kk)).length = 12 from by first | exact costL_len _ | simp)
      have HQE := Lib.hid (show enc12 (costL kk) = [.int .i64 q0, .int .i64 q1, .int .i64 q2, .int .i64 q3, .int .i64 q4, .int .i64 q5, .int .i64 q6, .int .i64 q7, .int .i64 q8, .int .i64 q9, .int .i64 q10, .int .i64 q11] by rw [hqe]; rfl)
      clear hqe
      have mm := fun (V : World) (h : CApp (w.heap.size + 2) w6 wr.heap.size (costL kk) ((List.range kk).map costL) cvv V) => (show Blk V (w.heap.size + 1) _ _ from (h.b.block (w.heap.size + 1) (by omega)).trans BM6.out).c4
      have kx0 := fun (V : World) (h : CApp (w.heap.size + 2) w6 wr.heap.size (costL kk) ((List.range kk).map costL) cvv V) => (show V.cell? ⟨wr.heap.size, 0, none⟩ = some (.int .i64 q0) from by have h1 := h.x.cell 0; rw [HQE.out] at h1; exact h1)
      have kx1 := fun (V : World) (h : CApp (w.heap.size + 2) w6 wr.heap.size (costL kk) ((List.range kk).map costL) cvv V) => (show V.cell? ⟨wr.heap.size, 1, none⟩ = some (.int .i64 q1) from by have h1 := h.x.cell 1; rw [HQE.out] at h1; exact h1)
      have kx2 := fun (V : World) (h : CApp (w.heap.size + 2) w6 wr.heap.size (costL kk) ((List.range kk).map costL) cvv V) => (show V.cell? ⟨wr.heap.size, 2, none⟩ = some (.int .i64 q2) from by have h1 := h.x.cell 2; rw [HQE.out] at h1; exact h1)
      have kx3 := fun (V : World) (h : CApp (w.heap.size + 2) w6 wr.heap.size (costL kk) ((List.range kk).map costL) cvv V) => (show V.cell? ⟨wr.heap.size, 3, none⟩ = some (.int .i64 q3) from by have h1 := h.x.cell 3; rw [HQE.out] at h1; exact h1)
      have kx4 := fun (V : World) (h : CApp (w.heap.size + 2) w6 wr.heap.size (costL kk) ((List.range kk).map costL) cvv V) => (show V.cell? ⟨wr.heap.size, 4, none⟩ = some (.int .i64 q4) from by have h1 := h.x.cell 4; rw [HQE.out] at h1; exact h1)
      have kx5 := fun (V : World) (h : CApp (w.heap.size + 2) w6 wr.heap.size (costL kk) ((List.range kk).map costL) cvv V) => (show V.cell? ⟨wr.heap.size, 5, none⟩ = some (.int .i64 q5) from by have h1 := h.x.cell 5; rw [HQE.out] at h1; exact h1)
      have kx6 := fun (V : World) (h : CApp (w.heap.size + 2) w6 wr.heap.size (costL kk) ((List.range kk).map costL) cvv V) => (show V.cell? ⟨wr.heap.size, 6, none⟩ = some (.int .i64 q6) from by have h1 := h.x.cell 6; rw [HQE.out] at h1; exact h1)
      have kx7 := fun (V : World) (h : CApp (w.heap.size + 2) w6 wr.heap.size (costL kk) ((List.range kk).map costL) cvv V) => (show V.cell? ⟨wr.heap.size, 7, none⟩ = some (.int .i64 q7) from by have h1 := h.x.cell 7; rw [HQE.out] at h1; exact h1)
      have kx8 := fun (V : World) (h : CApp (w.heap.size + 2) w6 wr.heap.size (costL kk) ((List.range kk).map costL) cvv V) => (show V.cell? ⟨wr.heap.size, 8, none⟩ = some (.int .i64 q8) from by have h1 := h.x.cell 8; rw [HQE.out] at h1; exact h1)
      have kx9 := fun (V : World) (h : CApp (w.heap.size + 2) w6 wr.heap.size (costL kk) ((List.range kk).map costL) cvv V) => (show V.cell? ⟨wr.heap.size, 9, none⟩ = some (.int .i64 q9) from by have h1 := h.x.cell 9; rw [HQE.out] at h1; exact h1)
      have kx10 := fun (V : World) (h : CApp (w.heap.size + 2) w6 wr.heap.size (costL kk) ((List.range kk).map costL) cvv V) => (show V.cell? ⟨wr.heap.size, 10, none⟩ = some (.int .i64 q10) from by have h1 := h.x.cell 10; rw [HQE.out] at h1; exact h1)
      have kx11 := fun (V : World) (h : CApp (w.heap.size + 2) w6 wr.heap.size (costL kk) ((List.range kk).map costL) cvv V) => (show V.cell? ⟨wr.heap.size, 11, none⟩ = some (.int .i64 q11) from by have h1 := h.x.cell 11; rw [HQE.out] at h1; exact h1)
      refine wp_region_tame_cut (CApp (w.heap.size + 2) w6 wr.heap.size (costL kk) ((List.range kk).map costL) cvv) (RF enc12 12 125 ((w.heap.size + 2)) (((List.range kk).map costL) ++ [(costL kk)]) (costL kk)) (by kernel_rfl) 33 rfl _ rfl (by decide +kernel) (by decide +kernel) (by decide +kernel) rfl (CC6.out.ext (Ext.refl _).drew HB6.out) ?_
      simp only [List.dropLast]
      repeat (apply tame_q rfl; (intro ρ W hC hr hD; (obtain ⟨hrc, hrg, hrf, hrs⟩ := hr); (simp [go_sem] at hD); go_simp; first | exact ⟨⟨hC, RF.refl _⟩, rfl⟩ | exact rfl); simp only [List.nil_append, List.cons_append])
      apply tame_v rfl (OneF enc12 125 (costL kk)) (fun v V V' _ hR h => by obtain ⟨g, h1, h2⟩ := h; exact ⟨g, h1, hR.2.2.1 g h2⟩)
      · intro ρ V hC hr hD
        obtain ⟨hrc, hrg, hrf, hrs⟩ := hr
        simp [go_sem] at hD
        go_simp
        exact ⟨⟨hC.ext (Ext.al _ _) (Nat.le_trans HB6.out hC.b.size), RF.ext (Ext.al _ _)⟩, ⟨_, rfl, by rw [HQE.out]; exact Blk.new _ _ _⟩⟩
      simp only [List.nil_append, List.cons_append]
      apply tame_v rfl (NewF enc12 12 125 ((w.heap.size + 2)) (((List.range kk).map costL) ++ [(costL kk)])) (fun v V V' _ hR h => ⟨hR.2.1 _ (List.prefix_refl _) v h.1, h.2⟩)
      · intro ρ V hC hr hD
        obtain ⟨hrc, hrg, hrf, hrs⟩ := hr
        simp [go_sem] at hD
        obtain ⟨d1, g, d2, d3⟩ := hD
        obtain ⟨v', V', hrun, hnew, hR, hB⟩ := run_appF (t := 110) (ty := 110) (enc := enc12) (sz := 12) (m := [(costL kk)]) (y := (costL kk)) Tryd.underlying110 info125x rfl (by decide) (by decide) enc12_len enc12_1 hC.c (F := ((List.range kk).map costL) ++ [(costL kk)]) (List.prefix_refl _) (by simp; omega) (Nat.le_trans HB6.out hC.b.size) (Sl.single (c := 1) d3 (Nat.le_refl _) (by decide))
        rw [← d2, ← d1] at hrun
        show opGives _ _ _ _ _ _ _
        unfold opGives execOp
        simp only [resolve, invoke, builtin, Sem.run_bind, Sem.run_pure, Result.andThen_ok, List.map_toArray, List.map_cons, List.map_nil, hrun]
        exact ⟨⟨⟨hC.b.trans hB, hR.2.2.1 _ hC.x, ⟨hR.2.1 _ (List.prefix_append _ _) _ hC.c.1, hC.c.2⟩⟩, hR⟩, hnew⟩
      simp only [List.nil_append, List.cons_append]
      repeat (apply tame_q rfl; (intro ρ W hC hr hD; (obtain ⟨hrc, hrg, hrf, hrs⟩ := hr); (simp [go_sem] at hD); go_simp; first | exact ⟨⟨hC, RF.refl _⟩, rfl⟩ | exact rfl); simp only [List.nil_append, List.cons_append])
      refine tame_end_put rfl rfl (fun ρ V hC hr hF => ?_)
      simp [go_sem] at hF
      obtain ⟨f1, f2, f3, f4, f5, f6, ⟨g25, f7, -⟩, hN, f9, f10⟩ := hF
      simp only [putF, f1, f2, f3, f4, f5, f6, f7, f9, f10, List.set_cons_succ, List.set_cons_zero]
      generalize ρ (Operand.tmp 26) = cv2 at *
      obtain ⟨A9, c9, e9, -⟩ := hN.2
      rw [show (((List.range kk).map costL) ++ [(costL kk)]).length = (kk + 1) by simp] at e9
      subst e9
      have CN2 := Lib.hid hN
      have BM7 := Lib.hid (show Blk V (w.heap.size + 1) _ _ from (hC.b.block (w.heap.size + 1) (by omega)).trans BM6.out)
      have EB7 := Lib.hid hC.b
      clear f1 f2 f3 f4 f5 f6 f7 f9 f10 hN hr hC mm kx0 kx1 kx2 kx3 kx4 kx5 kx6 kx7 kx8 kx9 kx10 kx11
      have x0 := BM7.out.c4
      go_wp2
      have HEV := Lib.hid (show Ext w V from ⟨EB7.out.os.trans (E6.out.os.trans EX.out.os), EB7.out.tape.trans (E6.out.tape.trans EX.out.tape), EB7.out.output.trans (E6.out.output.trans EX.out.output), by have := EB7.out.size; omega, fun i hi => (EB7.out.block i (by omega)).trans (((EX.out.trans E6.out)).block i hi)⟩)
      go_roundg (n2 - (kk + 1))
      case measure => omega
      case rel =>
        refine ⟨kk + 1, .slice A9 (kk + 1) c9, by omega, by omega, by simp, ?_, ?_, ?_, HEV.out.setCell (by dsimp only; omega) _⟩
        · exact Blk.far ((EB7.out.block _ (by omega)).trans (B0.out.ext E6.out)) (by dsimp only; omega) _
        · have := BM7.out.set_ 3 (.slice A9 (kk + 1) c9)
          show Blk _ _ _ _
          simpa using this
        · have hc := CN2.out
          show NewF _ _ _ _ _ _ _
          rw [List.range_succ, List.map_append]
          exact ⟨own_far hc.1 (by dsimp only; omega) _, hc.2⟩
    · have HE := Lib.hid (show kk = n2 by omega)
      have HCL := Lib.hid (show ((List.range kk).map costL).length = c.sales.length by rw [HE.out]; simp; exact hn2.out)
      obtain ⟨A9, c9, e9, -⟩ := CN.out.2
      subst e9
      have hz0 := EX.out.size
      have hz2 := BM.out.lt
      go_wp2_with fail
      refine (closed_any (c := c) (f := progF) (C := (List.range kk).map costL) HR.out HS11.out (costs_prog kk (by omega)) HCL.out progF_pos BM.out (HH.out.ext EX.out) (HS.out.ext EX.out) (Own.sl enc12_len CN.out.1) ?_ ?_ ?_).mono ?_
      · intro h0 b o e
        have := Sl.lt HH.out h0 b o e
        omega
      · intro h0 b o e
        have := Sl.lt HS.out h0 b o e
        omega
      · intro h0 b o e
        rcases own_form CN.out.1 with ⟨_, h1⟩ | ⟨g, cap, cur, h1, h2, h3, _⟩
        · rw [h1] at h0; simp at h0
        · rw [e] at h1
          injection h1 with h1
          injection h1 with h1
          injection h1 with h1 _ _
          omega
      rintro e w' ⟨gm, m, ⟨v, rfl⟩, hG, hB, hgm, hRM, hO⟩
      have hm := close_prog HR.out HS11.out hO HCLO.out
      subst hm
      have hlen : m.length = c.sales.length := by rw [feas_len hO.1, at_len]
      rw [hlen] at hB
      have HG := Lib.hid hG; have HB := Lib.hid hB; have HRM := Lib.hid hRM
      clear hG hB hRM hO hlen
      go_wp2
      go_ret
      have hE : Ext w w' := ⟨HG.out.os.trans EX.out.os, HG.out.tape.trans EX.out.tape, HG.out.output.trans EX.out.output, by have := HG.out.size; omega, fun i hi => (HG.out.block i (by omega) (by intro e; injection e with e; omega)).trans (EX.out.block i hi)⟩
      exact ⟨w.heap.size + 1, gm, _, _, _, rfl, hE, by omega, by omega, HB.out, HRM.out, HH.out.ext hE, HS.out.ext hE⟩
end Go.Proofs.YtafdbgielmlihaaDoor
/- chain.opened, Owed, Close; the reference's Owed. -/
namespace Go.Proofs.YtafdbgielmlihaaDoor
open Go.RowKit Go.Shelf Go.Lib
set_option maxRecDepth 100000
set_option linter.unusedSimpArgs false

/-- A list and an error. -/
def ListE (l : List Int) (E : Int) (w : World) (e : Ending) (w' : World) : Prop := (∃ v, e = .returned (.tuple #[v, .int .i64 E]) ∧ SlI w' v l) ∧ Ext w w'
def OpenedP (c : Chn) (l : List Int) (w : World) (e : Ending) (w' : World) : Prop :=
  ∃ mb gm hv sv cv, e = .returned (.tuple #[.pointer (some ⟨mb, 0, none⟩), .int .i64 0]) ∧ Ext w w' ∧ w.heap.size ≤ mb ∧ w.heap.size ≤ gm ∧ Blk w' mb 112 #[hv, sv, .slice (some ⟨gm, 0, none⟩) c.sales.length c.sales.length, cv] ∧ RowI w' gm l ∧ SlI w' hv c.houses ∧ SlL w' sv c.sales

theorem opened_no (c : Chn) (hv sv : Value) (w : World) (hT : Tab w) (hh : SlI w hv c.houses) (hs : SlL w sv c.sales) (hl : c.sales.length ≤ 1000) (hc : checkP c = false) :
    Calls Tryd.prog 74 #[valC hv sv] w fun e w' => e = .returned (.tuple #[.pointer none, .int .i64 60]) ∧ Ext w w' := by
  have HT := Lib.hid hT; have HH := Lib.hid hh; have HS := Lib.hid hs; have HL := Lib.hid hl
  obtain ⟨A, n, cp, rfl, -, -, -⟩ := hh.form
  obtain ⟨A2, n2, cp2, rfl, -, -, -⟩ := hs.form
  have HC := Lib.hid hc
  clear hh hs hT hl hc
  go_enter Tryd.func74, Tryd.ntmps74
  go_wp2_with fail
  refine (check_any c _ _ _ (HT.out.ext (Ext.al _ _)) (HH.out.ext (Ext.al _ _)) (HS.out.ext (Ext.al _ _)) HL.out).mono ?_
  rintro e w1 ⟨rfl, hE⟩
  have E1 := Lib.hid ((Ext.al w _).trans hE); clear hE
  rw [HC.out]
  dsimp only [errB]
  go_wp2
  go_ret2
  exact ⟨rfl, E1.out⟩
theorem opened_yes (c : Chn) (l : List Int) (hv sv : Value) (w : World) (hcl : CloseOf c l) (hT : Tab w) (hh : SlI w hv c.houses) (hs : SlL w sv c.sales) (hc : checkP c = true) :
    Calls Tryd.prog 74 #[valC hv sv] w (OpenedP c l w) := by
  have hl := (check_right hc).2
  have HCLO := Lib.hid (hcl.1 hc)
  clear hcl
  have HR := Lib.hid (check_right hc).1
  have HT := Lib.hid hT; have HH := Lib.hid hh; have HS := Lib.hid hs; have HL := Lib.hid hl
  obtain ⟨A, n, cp, rfl, -, -, -⟩ := hh.form
  obtain ⟨A2, n2, cp2, rfl, -, -, -⟩ := hs.form
  have HC := Lib.hid hc
  clear hh hs hT hl hc
  go_enter Tryd.func74, Tryd.ntmps74
  have B0 := Lib.hid (show Blk (w.alloc (.cells #[.slice A n cp, .slice A2 n2 cp2] 25)) w.heap.size 25 #[.slice A n cp, .slice A2 n2 cp2] from Blk.new _ _ _)
  go_wp2_with fail
  refine (check_any c _ _ _ (HT.out.ext (Ext.al _ _)) (HH.out.ext (Ext.al _ _)) (HS.out.ext (Ext.al _ _)) (by have := HL.out; omega)).mono ?_
  rintro e w1 ⟨rfl, hE⟩
  have E1 := Lib.hid ((Ext.al w _).trans hE)
  have x0 := (B0.out.ext hE).c2
  clear hE
  rw [HC.out]
  dsimp only [errB]
  go_wp2_with fail
  refine (closing_any c l _ _ _ HCLO.out HR.out (by have := HL.out; omega) (HH.out.ext E1.out) (HS.out.ext E1.out)).mono ?_
  rintro e w2 ⟨mb, gm, hv', sv', cv', rfl, hE, h1, h2, h3, h4, h5, h6⟩
  have HE := Lib.hid hE; have H3 := Lib.hid h3; have H4 := Lib.hid h4; have H5 := Lib.hid h5; have H6 := Lib.hid h6
  clear hE h3 h4 h5 h6 x0
  have hz := E1.out.size
  go_wp2
  go_ret2
  exact ⟨mb, gm, hv', sv', cv', rfl, E1.out.trans HE.out, by omega, by omega, H3.out, H4.out, H5.out, H6.out⟩

def owedL (c : Chn) : List Int := if checkP c then getsL c (balesOf c) else []
theorem bales_bd {c : Chn} (hR : Right c) : ∀ y ∈ balesOf c, -1000 ≤ y ∧ y ≤ 1000 := by
  intro y hy
  unfold balesOf at hy
  obtain ⟨x, hx, rfl⟩ := List.mem_map.1 hy
  have := (hR.sale x hx).2.2.2.1
  omega
def FreshM (B : Nat) (hv sv : Value) (v : Value) (W : World) : Prop := ∃ mb, v = .pointer (some ⟨mb, 0, none⟩) ∧ B ≤ mb ∧ Blk W mb 112 #[hv, sv, .slice none 0 0, .slice none 0 0]
theorem FreshM.ext {B : Nat} {hv sv v : Value} {W W' : World} (h : FreshM B hv sv v W) (e : Ext W W') : FreshM B hv sv v W' := by
  obtain ⟨g, h1, h2, h3⟩ := h
  exact ⟨g, h1, h2, h3.ext e⟩
set_option maxHeartbeats 1000000 in
theorem owed_any (c : Chn) (hv sv : Value) (w : World) (hT : Tab w) (hh : SlI w hv c.houses) (hs : SlL w sv c.sales) (hl : c.sales.length ≤ 1000) :
    Calls Tryd.prog 20 #[valC hv sv] w (ListE (owedL c) (errB (checkP c) 60) w) := by
  have HT := Lib.hid hT; have HH := Lib.hid hh; have HS := Lib.hid hs; have HL := Lib.hid hl
  obtain ⟨A, n, cp, rfl, -, -, -⟩ := hh.form
  obtain ⟨A2, n2, cp2, rfl, -, -, -⟩ := hs.form
  clear hh hs hT hl
  go_enter Tryd.func20, Tryd.ntmps20
  have B0 := Lib.hid (show Blk (w.alloc (.cells #[.slice A n cp, .slice A2 n2 cp2] 25)) w.heap.size 25 #[.slice A n cp, .slice A2 n2 cp2] from Blk.new _ _ _)
  go_wp2_with fail
  refine (check_any c _ _ _ (HT.out.ext (Ext.al _ _)) (HH.out.ext (Ext.al _ _)) (HS.out.ext (Ext.al _ _)) HL.out).mono ?_
  rintro e w1 ⟨rfl, hE⟩
  have E1 := Lib.hid ((Ext.al w _).trans hE)
  have B1 := Lib.hid (B0.out.ext hE)
  clear hE
  cases hc : checkP c with
  | false =>
    have HO := Lib.hid (show owedL c = [] by unfold owedL; rw [hc]; rfl)
    have HCK := Lib.hid hc
    clear hc
    dsimp only [errB]
    go_wp2
    go_ret2
    exact ⟨⟨.slice none 0 0, by rw [HCK.out]; rfl, by rw [HO.out]; exact Sl.nil _⟩, E1.out⟩
  | true =>
    have HO := Lib.hid (show owedL c = getsL c (balesOf c) by unfold owedL; rw [hc]; rfl)
    have HR := Lib.hid (check_right hc).1
    have HS10 := Lib.hid (check_right hc).2
    have HCK := Lib.hid hc
    clear hc
    dsimp only [errB]
    have m0 := fun W (h : Ext w1 W) => (B1.out.ext h).c2
    go_wp2
    refine wp_region_tame (fun W => Ext w1 W) (fun W W' => Ext W W') (by kernel_rfl) 16 rfl (by decide +kernel) (Ext.refl _).drew ?_
    repeat (apply tame_q rfl; (intro ρ W hC hr hD; (obtain ⟨hrc, hrg, hrf, hrs⟩ := hr); (simp [go_sem] at hD); go_simp; first | exact ⟨⟨hC, Ext.refl _⟩, rfl⟩ | exact ⟨⟨hC, RS.refl _⟩, rfl⟩ | exact rfl); simp only [List.nil_append, List.cons_append])
    apply tame_v rfl (FreshM w1.heap.size (.slice A n cp) (.slice A2 n2 cp2)) (fun v W W' _ hE h => h.ext hE)
    · intro ρ W hC hr hD
      obtain ⟨hrc, hrg, hrf, hrs⟩ := hr
      simp [go_sem] at hD
      go_simp
      exact ⟨⟨hC.alloc _, Ext.al _ _⟩, ⟨_, rfl, hC.size, Blk.new _ _ _⟩⟩
    simp only [List.nil_append, List.cons_append]
    repeat (apply tame_q rfl; (intro ρ W hC hr hD; (obtain ⟨hrc, hrg, hrf, hrs⟩ := hr); (simp [go_sem] at hD); go_simp; first | exact ⟨⟨hC, Ext.refl _⟩, rfl⟩ | exact ⟨⟨hC, RS.refl _⟩, rfl⟩ | exact rfl); simp only [List.nil_append, List.cons_append])
    apply tame_v rfl (fun v W => SlI W v (balesOf c)) (fun v W W' _ hE h => h.ext hE)
    · intro ρ W hC hr hD
      obtain ⟨hrc, hrg, hrf, hrs⟩ := hr
      simp [go_sem] at hD
      go_simp
      refine (f72_any c _ _ W (HH.out.ext (E1.out.trans hC)) (HS.out.ext (E1.out.trans hC)) (by have := HS10.out; omega)).mono ?_
      rintro e w' ⟨⟨v', rfl, ho⟩, hE⟩
      exact ⟨_, rfl, ⟨hC.trans hE, hE⟩, ho.sl (fun _ => rfl)⟩
    simp only [List.nil_append, List.cons_append]
    apply tame_v rfl (RowV w1.heap.size (getsL c (balesOf c))) (fun v W W' _ hE h => h.ext hE)
    · intro ρ W hC hr hD
      obtain ⟨hrc, hrg, hrf, hrs⟩ := hr
      simp [go_sem] at hD
      obtain ⟨⟨mb, d1, d2, d3⟩, d4⟩ := hD
      have hz := hC.size
      clear m0
      go_simp
      refine (mgets_any c (balesOf c) mb _ _ _ _ _ W d3 (HH.out.ext (E1.out.trans hC)) (HS.out.ext (E1.out.trans hC)) d4 HR.out (by have := HS10.out; omega) (bales_len c) (bales_bd HR.out)).mono ?_
      rintro e w' ⟨⟨g, rfl, hg, hr⟩, hE⟩
      exact ⟨_, rfl, ⟨hC.trans hE, hE⟩, ⟨g, rfl, by omega, hr⟩⟩
    simp only [List.nil_append, List.cons_append]
    apply tame_v rfl (RowV w1.heap.size (getsL c (balesOf c))) (fun v W W' _ hE h => h.ext hE)
    · intro ρ W hC hr hD
      obtain ⟨hrc, hrg, hrf, hrs⟩ := hr
      simp [go_sem] at hD
      go_simp
      exact ⟨hC, Ext.refl _⟩
    simp only [List.nil_append, List.cons_append]
    repeat (apply tame_q rfl; (intro ρ W hC hr hD; (obtain ⟨hrc, hrg, hrf, hrs⟩ := hr); (simp [go_sem] at hD); go_simp; first | exact ⟨⟨hC, Ext.refl _⟩, rfl⟩ | exact ⟨⟨hC, RS.refl _⟩, rfl⟩ | exact rfl); simp only [List.nil_append, List.cons_append])
    refine tame_end_put rfl rfl (fun ρ W hC hr hF => ?_)
    simp [go_sem] at hF
    obtain ⟨f1, f2, -, f4, -, -, ⟨g, f7, -, hRL⟩, f8⟩ := hF
    simp only [putF, f1, f2, f4, f7, f8, List.set_cons_succ, List.set_cons_zero]
    generalize ρ (Operand.tmp 12) = v12
    generalize ρ (Operand.tmp 14) = v14
    generalize ρ (Operand.tmp 15) = v15
    have EW := Lib.hid (E1.out.trans hC)
    have RL := Lib.hid hRL
    clear f1 f2 f4 f7 f8 hr hC hRL m0
    have h6 := HR.out.h6
    go_wp2
    go_ret2
    exact ⟨⟨.slice (some ⟨g, 0, none⟩) (getsL c (balesOf c)).length (getsL c (balesOf c)).length, by rw [HCK.out]; rfl, by rw [HO.out]; exact RL.out.sl (by unfold maxLen; simp [getsL]; omega)⟩, EW.out⟩

/-- A list, its sum and an error. -/
def SumE (l : List Int) (E : Int) (w : World) (e : Ending) (w' : World) : Prop := (∃ v, e = .returned (.tuple #[v, .int .i64 (sumI l), .int .i64 E]) ∧ SlI w' v l) ∧ Ext w w'
theorem close_len {c : Chn} {l : List Int} (h : IsClose c l) : l.length = c.sales.length := by rw [feas_len h.1, at_len]
theorem close_nine {c : Chn} {l : List Int} (hR : Right c) (h : IsClose c l) : ∀ y ∈ l, 0 ≤ y ∧ y ≤ 9 := opt_nine h fun x hx => (at_cap hR _ x hx).2
theorem close_mild {c : Chn} {l : List Int} (hR : Right c) (h : IsClose c l) (hs : c.sales.length ≤ 100) : Mild l := ⟨by rw [close_len h]; omega, fun x hx => by have := close_nine hR h x hx; omega⟩
set_option maxHeartbeats 1000000 in
theorem close_any (c : Chn) (l : List Int) (hv sv : Value) (w : World) (hcl : CloseOf c l) (hT : Tab w) (hh : SlI w hv c.houses) (hs : SlL w sv c.sales) (hl : c.sales.length ≤ 1000) :
    Calls Tryd.prog 22 #[valC hv sv] w (SumE l (errB (checkP c) 60) w) := by
  have HT := Lib.hid hT; have HH := Lib.hid hh; have HS := Lib.hid hs; have HL := Lib.hid hl
  obtain ⟨A, n, cp, rfl, -, -, -⟩ := hh.form
  obtain ⟨A2, n2, cp2, rfl, -, -, -⟩ := hs.form
  clear hh hs hT hl
  cases hc : checkP c with
  | false =>
    have HO := Lib.hid (hcl.2 hc)
    clear hcl
    have HCK := Lib.hid hc
    clear hc
    go_enter Tryd.func22, Tryd.ntmps22
    go_wp2_with fail
    refine (opened_no c _ _ _ (HT.out.ext (Ext.al _ _)) (HH.out.ext (Ext.al _ _)) (HS.out.ext (Ext.al _ _)) HL.out HCK.out).mono ?_
    rintro e w1 ⟨rfl, hE⟩
    have E1 := Lib.hid ((Ext.al w _).trans hE); clear hE
    go_wp2
    go_ret3
    exact ⟨⟨.slice none 0 0, by rw [HO.out]; rfl, by rw [HO.out]; exact Sl.nil _⟩, E1.out⟩
  | true =>
    have HO := Lib.hid (hcl.1 hc)
    have HCLO := Lib.hid hcl
    clear hcl
    have HCK := Lib.hid hc
    have HR := Lib.hid (check_right hc).1
    have HS10 := Lib.hid (check_right hc).2
    clear hc
    go_enter Tryd.func22, Tryd.ntmps22
    go_wp2_with fail
    refine (opened_yes c l _ _ _ HCLO.out (HT.out.ext (Ext.al _ _)) (HH.out.ext (Ext.al _ _)) (HS.out.ext (Ext.al _ _)) HCK.out).mono ?_
    rintro e w1 ⟨mb, gm, hv', sv', cv', rfl, hE, h1, h2, h3, h4, h5, h6⟩
    have E1 := Lib.hid ((Ext.al w _).trans hE)
    have BM := Lib.hid h3; have RM := Lib.hid h4
    have HLN := Lib.hid (close_len HO.out)
    have RS := Lib.hid (show SlI w1 (.slice (some ⟨gm, 0, none⟩) c.sales.length c.sales.length) l from by rw [← HLN.out]; exact h4.sl (by unfold maxLen; rw [HLN.out]; have := HS10.out; omega))
    clear hE h3 h4 h5 h6
    have m0 := fun W (h : Ext w1 W) => (BM.out.ext h).c4
    go_wp2
    refine wp_region_tame (fun W => Ext w1 W) (fun W W' => Ext W W') (by kernel_rfl) 24 rfl (by decide +kernel) (Ext.refl _).drew ?_
    repeat (apply tame_q rfl; (intro ρ W hC hr hD; (obtain ⟨hrc, hrg, hrf, hrs⟩ := hr); (simp [go_sem] at hD); go_simp; first | exact ⟨⟨hC, Ext.refl _⟩, rfl⟩ | exact ⟨⟨hC, RS.refl _⟩, rfl⟩ | exact rfl); simp only [List.nil_append, List.cons_append])
    apply tame_q rfl
    · intro ρ W hC hr hD
      obtain ⟨hrc, hrg, hrf, hrs⟩ := hr
      simp [go_sem] at hD
      go_simp
      refine (f75_any l _ W (RS.out.ext hC) (close_mild HR.out HO.out (by have := HS10.out; omega))).mono ?_
      rintro e w' ⟨rfl, hE⟩
      exact ⟨_, rfl, ⟨hC.trans hE, hE⟩, rfl⟩
    simp only [List.nil_append, List.cons_append]
    repeat (apply tame_q rfl; (intro ρ W hC hr hD; (obtain ⟨hrc, hrg, hrf, hrs⟩ := hr); (simp [go_sem] at hD); go_simp; first | exact ⟨⟨hC, Ext.refl _⟩, rfl⟩ | exact ⟨⟨hC, RS.refl _⟩, rfl⟩ | exact rfl); simp only [List.nil_append, List.cons_append])
    refine tame_end_put rfl rfl (fun ρ W hC hr hF => ?_)
    simp [go_sem] at hF
    simp only [putF, hF, List.set_cons_succ, List.set_cons_zero]
    clear hF hr
    have EW := Lib.hid (E1.out.trans hC)
    have RW := Lib.hid (RS.out.ext hC)
    clear hC m0
    go_wp2
    go_ret3
    exact ⟨⟨.slice (some ⟨gm, 0, none⟩) c.sales.length c.sales.length, rfl, RW.out⟩, EW.out⟩
end Go.Proofs.YtafdbgielmlihaaDoor
/- Proof, plain: the numbers that prove a closing; one pass over the sales, and its iterations up to where nothing rises. -/
namespace Go.Proofs.YtafdbgielmlihaaDoor
open Go.RowKit Go.Shelf
set_option linter.unusedSimpArgs false

/-- What a sale asks: the house at b is above the one at s, if a bale moves; b is at most one above s, if one does not. -/
def prU (s b : Nat) (u : Bool) (o : List Int) : List Int := if u && decide (o[b]?.getD 0 ≤ o[s]?.getD 0) then o.set b (o[s]?.getD 0 + 1) else o
def prD (s b : Nat) (d : Bool) (o : List Int) : List Int := if d && decide (o[s]?.getD 0 + 1 < o[b]?.getD 0) then o.set s (o[b]?.getD 0 - 1) else o
def prS (c : Chn) (x : Sale) (y : Int) (o : List Int) : List Int :=
  prD (houseI c x.seller).toNat (houseI c x.buyer).toNat (decide (y < x.bales)) (prU (houseI c x.seller).toNat (houseI c x.buyer).toNat (decide (0 < y)) o)
def prTo (c : Chn) (l : List Int) (o : List Int) : Nat → List Int
  | 0 => o
  | k + 1 => match c.sales[k]?, l[k]? with
    | some x, some y => prS c x y (prTo c l o k)
    | _, _ => prTo c l o k
def prPass (c : Chn) (l : List Int) (o : List Int) : List Int := prTo c l o c.sales.length
def prIt (c : Chn) (l : List Int) : Nat → List Int
  | 0 => List.replicate c.houses.length 0
  | k + 1 => prPass c l (prIt c l k)
/-- .. the end. -/
def IsPr (c : Chn) (l P : List Int) : Prop := ∃ k, prIt c l k = P ∧ prPass c l P = P
/-- Numbers above all of them. -/
structure Top (c : Chn) (l : List Int) (π : List Int) : Prop where
  len : π.length = c.houses.length
  up : ∀ (k : Nat) (x : Sale) (y : Int), c.sales[k]? = some x → l[k]? = some y → 0 < y → π[(houseI c x.seller).toNat]?.getD 0 + 1 ≤ π[(houseI c x.buyer).toNat]?.getD 0
  down : ∀ (k : Nat) (x : Sale) (y : Int), c.sales[k]? = some x → l[k]? = some y → y < x.bales → π[(houseI c x.buyer).toNat]?.getD 0 ≤ π[(houseI c x.seller).toNat]?.getD 0 + 1
def LeL (o π : List Int) : Prop := ∀ v : Nat, o[v]?.getD 0 ≤ π[v]?.getD 0
theorem LeL.refl (o : List Int) : LeL o o := fun _ => Int.le_refl _
theorem LeL.trans {a b c : List Int} (h : LeL a b) (k : LeL b c) : LeL a c := fun v => Int.le_trans (h v) (k v)
theorem getD_set (o : List Int) (i v : Nat) (x : Int) : (o.set i x)[v]?.getD 0 = if i = v ∧ i < o.length then x else o[v]?.getD 0 := by
  rw [List.getElem?_set]
  by_cases h : i = v
  · subst h
    by_cases h1 : i < o.length
    · simp [h1]
    · simp [h1, List.getElem?_eq_none (by omega : o.length ≤ i)]
  · simp [h]
theorem prU_len (s b : Nat) (u : Bool) (o : List Int) : (prU s b u o).length = o.length := by unfold prU; split <;> simp
theorem prD_len (s b : Nat) (d : Bool) (o : List Int) : (prD s b d o).length = o.length := by unfold prD; split <;> simp
theorem prU_up (s b : Nat) (u : Bool) (o : List Int) : LeL o (prU s b u o) := by
  intro v
  unfold prU
  split
  · rename_i h
    simp only [Bool.and_eq_true, decide_eq_true_eq] at h
    rw [getD_set]
    split
    · rename_i h2; obtain ⟨rfl, -⟩ := h2; omega
    · exact Int.le_refl _
  · exact Int.le_refl _
theorem prD_up (s b : Nat) (d : Bool) (o : List Int) : LeL o (prD s b d o) := by
  intro v
  unfold prD
  split
  · rename_i h
    simp only [Bool.and_eq_true, decide_eq_true_eq] at h
    rw [getD_set]
    split
    · rename_i h2; obtain ⟨rfl, -⟩ := h2; omega
    · exact Int.le_refl _
  · exact Int.le_refl _
theorem prU_top {s b : Nat} {u : Bool} {o π : List Int} (h : LeL o π) (hu : u = true → π[s]?.getD 0 + 1 ≤ π[b]?.getD 0) : LeL (prU s b u o) π := by
  intro v
  unfold prU
  split
  · rename_i h1
    simp only [Bool.and_eq_true, decide_eq_true_eq] at h1
    rw [getD_set]
    split
    · rename_i h2; obtain ⟨rfl, -⟩ := h2
      have := hu h1.1; have := h s; omega
    · exact h v
  · exact h v
theorem prD_top {s b : Nat} {d : Bool} {o π : List Int} (h : LeL o π) (hd : d = true → π[b]?.getD 0 ≤ π[s]?.getD 0 + 1) : LeL (prD s b d o) π := by
  intro v
  unfold prD
  split
  · rename_i h1
    simp only [Bool.and_eq_true, decide_eq_true_eq] at h1
    rw [getD_set]
    split
    · rename_i h2; obtain ⟨rfl, -⟩ := h2
      have := hd h1.1; have := h b; omega
    · exact h v
  · exact h v
theorem prS_len (c : Chn) (x : Sale) (y : Int) (o : List Int) : (prS c x y o).length = o.length := by unfold prS; rw [prD_len, prU_len]
theorem prS_up (c : Chn) (x : Sale) (y : Int) (o : List Int) : LeL o (prS c x y o) := (prU_up _ _ _ o).trans (prD_up _ _ _ _)
theorem prTo_len (c : Chn) (l o : List Int) : ∀ k, (prTo c l o k).length = o.length
  | 0 => rfl
  | k + 1 => by
    rw [prTo]
    split
    · rw [prS_len, prTo_len c l o k]
    · exact prTo_len c l o k
theorem prTo_up (c : Chn) (l o : List Int) : ∀ k, LeL o (prTo c l o k)
  | 0 => LeL.refl o
  | k + 1 => by
    rw [prTo]
    split
    · exact (prTo_up c l o k).trans (prS_up _ _ _ _)
    · exact prTo_up c l o k
theorem prTo_top {c : Chn} {l o π : List Int} (hT : Top c l π) (h : LeL o π) : ∀ k, LeL (prTo c l o k) π
  | 0 => h
  | k + 1 => by
    rw [prTo]
    split
    · rename_i x y hx hy
      refine prD_top (prU_top (prTo_top hT h k) fun hu => ?_) fun hd => ?_
      · exact hT.up k x y hx hy (of_decide_eq_true hu)
      · exact hT.down k x y hx hy (of_decide_eq_true hd)
    · exact prTo_top hT h k
theorem prTo_succ {c : Chn} {l o : List Int} {k : Nat} {x : Sale} {y : Int} (hx : c.sales[k]? = some x) (hy : l[k]? = some y) : prTo c l o (k + 1) = prS c x y (prTo c l o k) := by
  rw [prTo]
  simp only [hx, hy]
theorem prIt_len (c : Chn) (l : List Int) : ∀ k, (prIt c l k).length = c.houses.length
  | 0 => by simp [prIt]
  | k + 1 => by rw [prIt, prPass, prTo_len, prIt_len c l k]
theorem prIt_top {c : Chn} {l π : List Int} (hT : Top c l π) (h0 : ∀ v : Nat, 0 ≤ π[v]?.getD 0) : ∀ k, LeL (prIt c l k) π
  | 0 => fun v => by
    have := h0 v
    unfold prIt
    rw [List.getElem?_replicate]
    split <;> simpa
  | k + 1 => prTo_top hT (prIt_top hT h0 k) _
/-- How much room is left. -/
def gap (o π : List Int) : Nat := ((o.zip π).map fun p => (p.2 - p.1).toNat).sum
theorem gap_cons (a b : Int) (o π : List Int) : gap (a :: o) (b :: π) = (b - a).toNat + gap o π := by simp [gap]
theorem gap_le : ∀ {o o' π : List Int}, o.length = o'.length → LeL o o' → gap o' π ≤ gap o π
  | [], [], _, _, _ => Nat.le_refl _
  | a :: o, a' :: o', [], _, _ => by simp [gap]
  | a :: o, a' :: o', b :: π, hl, h => by
    rw [gap_cons, gap_cons]
    have h0 := h 0
    have ih := gap_le (o := o) (o' := o') (π := π) (by simpa using hl) fun v => by simpa using h (v + 1)
    simp at h0
    omega
theorem gap_lt : ∀ {o o' π : List Int}, o.length = o'.length → o'.length ≤ π.length → LeL o o' → LeL o' π → o ≠ o' → gap o' π < gap o π
  | [], [], _, _, _, _, _, hn => absurd rfl hn
  | a :: o, a' :: o', [], _, h, _, _, _ => by simp at h
  | a :: o, a' :: o', b :: π, hl, hp, h, ht, hn => by
    rw [gap_cons, gap_cons]
    have h0 := h 0
    have h1 := ht 0
    simp at h0 h1
    have hs : LeL o o' := fun v => by simpa using h (v + 1)
    by_cases e : a = a'
    · subst e
      have ih := gap_lt (o := o) (o' := o') (π := π) (by simpa using hl) (by simpa using hp) hs (fun v => by simpa using ht (v + 1)) fun e => hn (by rw [e])
      omega
    · have ih := gap_le (o := o) (o' := o') (π := π) (by simpa using hl) hs
      omega
theorem pr_step {c : Chn} {l π : List Int} (hT : Top c l π) (h0 : ∀ v : Nat, 0 ≤ π[v]?.getD 0) (k : Nat) (hn : prPass c l (prIt c l k) ≠ prIt c l k) : gap (prIt c l (k + 1)) π < gap (prIt c l k) π :=
  gap_lt (by rw [prIt_len, prIt_len]) (by rw [prIt_len, hT.len]; omega) (prTo_up _ _ _ _) (prIt_top hT h0 _) (fun e => hn (by rw [prIt] at e; exact e.symm))
theorem pr_stay {c : Chn} {l : List Int} {k : Nat} (h : prPass c l (prIt c l k) = prIt c l k) : ∀ j, prIt c l (k + j) = prIt c l k
  | 0 => rfl
  | j + 1 => by rw [← Nat.add_assoc, prIt, pr_stay h j, h]
theorem pr_one {c : Chn} {l P Q : List Int} (h : IsPr c l P) (h' : IsPr c l Q) : P = Q := by
  obtain ⟨k, rfl, hk⟩ := h
  obtain ⟨j, rfl, hj⟩ := h'
  rcases Nat.le_total k j with h | h
  · obtain ⟨d, rfl⟩ := Nat.exists_eq_add_of_le h
    exact (pr_stay hk d).symm
  · obtain ⟨d, rfl⟩ := Nat.exists_eq_add_of_le h
    exact pr_stay hj d
theorem low_exists (ρ : Nat → Int) : ∀ n : Nat, ∃ lo, ∀ v, v < n → lo ≤ ρ v
  | 0 => ⟨0, fun v hv => by omega⟩
  | n + 1 => by
    obtain ⟨lo, h⟩ := low_exists ρ n
    refine ⟨min lo (ρ n), fun v hv => ?_⟩
    by_cases e : v = n
    · subst e; omega
    · have := h v (by omega); omega
/-- **The closing is proved by numbers.** -/
theorem top_exists {c : Chn} {l : List Int} (hR : Right c) (hN : c.sales.length ≤ 10) (h : IsClose c l) : ∃ π, Top c l π ∧ ∀ v : Nat, 0 ≤ π[v]?.getD 0 := by
  unfold IsClose at h
  rw [refF_form] at h
  obtain ⟨-, -, π0, hπ⟩ := h
  have hb : ∀ k : Nat, (0 : Int) ≤ 1 * (10 : Int) ^ ((salsOf c).length - 1 - k) ∧ 1 * (10 : Int) ^ ((salsOf c).length - 1 - k) ≤ 10000000000 := fun k => by
    rw [Int.one_mul]
    have h1 : (salsOf c).length - 1 - k ≤ 10 := by rw [sals_len]; omega
    have h2 : (10 : Int) ^ ((salsOf c).length - 1 - k) * 1 ≤ 10 ^ ((salsOf c).length - 1 - k) * 10 ^ (10 - ((salsOf c).length - 1 - k)) := Int.mul_le_mul_of_nonneg_left (by have := Int.pow_pos (n := 10) (m := 10 - ((salsOf c).length - 1 - k)) (by decide); omega) (Int.le_of_lt (Int.pow_pos (by decide)))
    rw [← Int.pow_add, show (salsOf c).length - 1 - k + (10 - ((salsOf c).length - 1 - k)) = 10 by omega] at h2
    have h3 := Int.pow_pos (n := 10) (m := (salsOf c).length - 1 - k) (by decide)
    omega
  obtain ⟨ρ, hρ⟩ := unit_pot (sals_lt hR) (X := 10000000000000) (E := 10000000000) (e := fun k => 1 * (10 : Int) ^ ((salsOf c).length - 1 - k)) (by decide) (by have := hR.h6; omega) (fun k => by have := hb k; omega) hπ
  obtain ⟨lo, hlo⟩ := low_exists ρ c.houses.length
  have hget : ∀ v, v < c.houses.length → (((List.range c.houses.length).map fun v => ρ v - lo)[v]?.getD 0) = ρ v - lo := fun v hv => by
    rw [List.getElem?_map, List.getElem?_range hv]
    rfl
  have hsal : ∀ (k : Nat) (x : Sale), c.sales[k]? = some x → (costed (fun _ => 1) 0 (salsOf c))[k]? = some ⟨(houseI c x.seller).toNat, (houseI c x.buyer).toNat, x.bales, 1⟩ := fun k x hx => by
    rw [costed_get, salsOf, List.getElem?_map, hx]
    rfl
  have hlt : ∀ (k : Nat) (x : Sale), c.sales[k]? = some x → (houseI c x.seller).toNat < c.houses.length ∧ (houseI c x.buyer).toNat < c.houses.length := fun k x hx => by
    obtain ⟨-, h1, h2, -⟩ := hR.sale x (List.mem_of_getElem? hx)
    have := houseI_lt h1; have := houseI_lt h2
    omega
  refine ⟨(List.range c.houses.length).map fun v => ρ v - lo, ⟨by simp, fun k x y hx hy h0 => ?_, fun k x y hx hy h0 => ?_⟩, fun v => ?_⟩
  · obtain ⟨h1, h2⟩ := hlt k x hx
    have := hρ _ ((mem_res _ l 0 _).2 ⟨k, _, y, hsal k x hx, hy, .inr ⟨rfl, h0⟩⟩)
    simp only [bwd] at this
    rw [hget _ h1, hget _ h2]
    omega
  · obtain ⟨h1, h2⟩ := hlt k x hx
    have := hρ _ ((mem_res _ l 0 _).2 ⟨k, _, y, hsal k x hx, hy, .inl ⟨rfl, h0⟩⟩)
    simp only [fwd] at this
    rw [hget _ h1, hget _ h2]
    omega
  · by_cases hv : v < c.houses.length
    · rw [hget v hv]; have := hlo v hv; omega
    · rw [List.getElem?_eq_none (by simp; omega)]
      simp
end Go.Proofs.YtafdbgielmlihaaDoor
/- Proof, plain: the numbers are small: only how many others lie below counts. -/
namespace Go.Proofs.YtafdbgielmlihaaDoor
open Go.RowKit Go.Shelf
set_option linter.unusedSimpArgs false

def uniqI : List Int → List Int
  | [] => []
  | x :: l => if x ∈ uniqI l then uniqI l else x :: uniqI l
theorem mem_uniq {x : Int} : ∀ {l : List Int}, x ∈ uniqI l ↔ x ∈ l
  | [] => by simp [uniqI]
  | y :: l => by
    unfold uniqI
    by_cases h : y ∈ uniqI l
    · rw [if_pos h, List.mem_cons, mem_uniq]
      constructor
      · exact .inr
      · rintro (rfl | h')
        · exact mem_uniq.1 h
        · exact h'
    · rw [if_neg h, List.mem_cons, List.mem_cons, mem_uniq]
theorem uniq_len : ∀ l : List Int, (uniqI l).length ≤ l.length
  | [] => Nat.le_refl _
  | y :: l => by
    have := uniq_len l
    unfold uniqI
    split <;> simp <;> omega
theorem uniq_one (x : Int) : ∀ l : List Int, (uniqI l).countP (fun z => decide (z = x)) ≤ 1
  | [] => by simp [uniqI]
  | y :: l => by
    have ih := uniq_one x l
    unfold uniqI
    by_cases h : y ∈ uniqI l
    · rw [if_pos h]; exact ih
    · rw [if_neg h, List.countP_cons]
      by_cases e : y = x
      · subst e
        have h0 : (uniqI l).countP (fun z => decide (z = y)) = 0 := by
          rw [List.countP_eq_zero]
          intro z hz hzy
          exact h ((of_decide_eq_true hzy) ▸ hz)
        rw [h0]
        simp
      · simp [e]
        simpa using ih
theorem count_step (x y : Int) : ∀ L : List Int, x < y → L.countP (fun z => decide (z < x)) + L.countP (fun z => decide (z = x)) ≤ L.countP (fun z => decide (z < y))
  | [], _ => by simp
  | a :: L, h => by
    have ih := count_step x y L h
    simp only [List.countP_cons, decide_eq_true_eq]
    split <;> split <;> split <;> omega
theorem count_near (x y : Int) : ∀ L : List Int, y ≤ x + 1 → L.countP (fun z => decide (z < y)) ≤ L.countP (fun z => decide (z < x)) + L.countP (fun z => decide (z = x))
  | [], _ => by simp
  | a :: L, h => by
    have ih := count_near x y L h
    simp only [List.countP_cons, decide_eq_true_eq]
    split <;> split <;> split <;> omega
def rankI (π : List Int) (x : Int) : Int := ((uniqI π).countP (fun z => decide (z < x)) : Int)
theorem rank_up {π : List Int} {x y : Int} (hx : x ∈ π) (h : x + 1 ≤ y) : rankI π x + 1 ≤ rankI π y := by
  have h1 := count_step x y (uniqI π) (by omega)
  have h2 : 0 < (uniqI π).countP (fun z => decide (z = x)) := List.countP_pos_iff.2 ⟨x, mem_uniq.2 hx, by simp⟩
  unfold rankI
  omega
theorem rank_near {π : List Int} {x y : Int} (h : y ≤ x + 1) : rankI π y ≤ rankI π x + 1 := by
  have h1 := count_near x y (uniqI π) h
  have h2 := uniq_one x π
  unfold rankI
  omega
theorem top_small {c : Chn} {l : List Int} (hR : Right c) (hN : c.sales.length ≤ 10) (h : IsClose c l) : ∃ π, Top c l π ∧ ∀ v : Nat, 0 ≤ π[v]?.getD 0 ∧ π[v]?.getD 0 ≤ 6 := by
  obtain ⟨π, hT, -⟩ := top_exists hR hN h
  have hget : ∀ v, v < c.houses.length → ((π.map (rankI π))[v]?.getD 0 = rankI π (π[v]?.getD 0)) ∧ π[v]?.getD 0 ∈ π := fun v hv => by
    have hv' : v < π.length := by rw [hT.len]; exact hv
    rw [List.getElem?_map, List.getElem?_eq_getElem hv']
    exact ⟨rfl, List.getElem_mem hv'⟩
  have hlt : ∀ (k : Nat) (x : Sale), c.sales[k]? = some x → (houseI c x.seller).toNat < c.houses.length ∧ (houseI c x.buyer).toNat < c.houses.length := fun k x hx => by
    obtain ⟨-, h1, h2, -⟩ := hR.sale x (List.mem_of_getElem? hx)
    have := houseI_lt h1; have := houseI_lt h2
    omega
  refine ⟨π.map (rankI π), ⟨by rw [List.length_map, hT.len], fun k x y hx hy h0 => ?_, fun k x y hx hy h0 => ?_⟩, fun v => ?_⟩
  · obtain ⟨h1, h2⟩ := hlt k x hx
    rw [(hget _ h1).1, (hget _ h2).1]
    exact rank_up (hget _ h1).2 (hT.up k x y hx hy h0)
  · obtain ⟨h1, h2⟩ := hlt k x hx
    rw [(hget _ h1).1, (hget _ h2).1]
    exact rank_near (hT.down k x y hx hy h0)
  · by_cases hv : v < c.houses.length
    · rw [(hget v hv).1]
      have h1 : (uniqI π).countP (fun z => decide (z < π[v]?.getD 0)) ≤ (uniqI π).length := List.countP_le_length
      have h2 := uniq_len π
      have h3 := hT.len
      have h4 := hR.h6
      unfold rankI
      omega
    · rw [List.getElem?_eq_none (by rw [List.length_map, hT.len]; omega)]
      simp
end Go.Proofs.YtafdbgielmlihaaDoor
