/- The calls of the chapter's examples and limits. -/
import Derived.Test.YtdlipbobfgdleaaDoorPkTruthCardS
import Derived.Test.YtdlipbobfgdleaaDoorPkKindOCardC
import Derived.Test.YtdlipbobfgdleaaDoorPkWrongOCardA
import Derived.Test.YtdlipbobfgdleaaDoorPkAskOCardA
namespace Go.Proofs.YtdlipbobfgdleaaDoor
open Go.RowKit Go.Shelf Go.Lib
set_option maxRecDepth 100000
set_option linter.unusedSimpArgs false

def exTorn : Bale := ⟨1, 0, ⟨400, 500⟩, (exB []).draws, (exB []).weighs⟩
def exFull : Bale := ⟨1, 4, ⟨400, 500⟩, (exB []).draws ++ (List.range 7).map fun (i : Nat) => ⟨13 + (i : Int), 2, ⟨1, 9⟩⟩, (exB []).weighs ++ (List.range 6).map fun (i : Nat) => ⟨12 + (i : Int), 450, ⟨0, 200⟩⟩⟩
def exWetB : Bale := ⟨1, 4, ⟨400, 500⟩, (exB []).draws, [⟨1, 480, ⟨0, 10⟩⟩, ⟨2, 470, ⟨40, 70⟩⟩]⟩
def exPlain : Bale := exB [⟨4, 1, ⟨3, 4⟩⟩, ⟨5, 2, ⟨3, 3⟩⟩, ⟨6, 3, ⟨3, 3⟩⟩]
def zd : Draw := ⟨0, 0, ⟨0, 0⟩⟩
def zw : Weigh := ⟨0, 0, ⟨0, 0⟩⟩
theorem exLayer0 (w : World) (v : Value) (base : Nat) (hT : Tab w) (tv : TwinV (exB []) base v w) : Calls Tryd.prog 18 #[v, .int .i64 0] w fun e w' => e = .returned (.tuple #[.agg #[.int .i64 3, .int .i64 3], .int .i64 0]) ∧ Ext w w' := by
  obtain ⟨dv, wv, rfl, o1, o2⟩ := tv
  refine (layer_any (exB []) 0 dv wv w hT (o1.sl fun _ => rfl) (o2.sl fun _ => rfl)).mono fun e w' h => ⟨h.1.trans ?_, h.2⟩
  kernel_rfl
theorem exLayer2 (w : World) (v : Value) (base : Nat) (hT : Tab w) (tv : TwinV (exB []) base v w) : Calls Tryd.prog 18 #[v, .int .i64 2] w fun e w' => e = .returned (.tuple #[.agg #[.int .i64 1, .int .i64 9], .int .i64 0]) ∧ Ext w w' := by
  obtain ⟨dv, wv, rfl, o1, o2⟩ := tv
  refine (layer_any (exB []) 2 dv wv w hT (o1.sl fun _ => rfl) (o2.sl fun _ => rfl)).mono fun e w' h => ⟨h.1.trans ?_, h.2⟩
  kernel_rfl
theorem exWet2 (w : World) (v : Value) (base : Nat) (hT : Tab w) (tv : TwinV (exB []) base v w) : Calls Tryd.prog 29 #[v, .int .i64 2] w fun e w' => e = .returned (.tuple #[.agg #[.int .i64 40, .int .i64 68], .int .i64 0]) ∧ Ext w w' := by
  obtain ⟨dv, wv, rfl, o1, o2⟩ := tv
  refine (wet_any (exB []) 2 dv wv w hT (o1.sl fun _ => rfl) (o2.sl fun _ => rfl) (by decide)).mono fun e w' h => ⟨h.1.trans ?_, h.2⟩
  kernel_rfl
theorem exKnownA (w : World) (v : Value) (base : Nat) (hT : Tab w) (tv : TwinV (exB []) base v w) : Calls Tryd.prog 33 #[v, .int .i64 1, .int .i64 62] w fun e w' => e = .returned (.tuple #[.int .u8 1, .int .i64 0]) ∧ Ext w w' := by
  obtain ⟨dv, wv, rfl, o1, o2⟩ := tv
  refine (known_any (exB []) 1 62 dv wv w hT (o1.sl fun _ => rfl) (o2.sl fun _ => rfl) (by decide)).mono fun e w' h => ⟨h.1.trans ?_, h.2⟩
  kernel_rfl
theorem exKnownB (w : World) (v : Value) (base : Nat) (hT : Tab w) (tv : TwinV (exB []) base v w) : Calls Tryd.prog 33 #[v, .int .i64 2, .int .i64 68] w fun e w' => e = .returned (.tuple #[.int .u8 0, .int .i64 0]) ∧ Ext w w' := by
  obtain ⟨dv, wv, rfl, o1, o2⟩ := tv
  refine (known_any (exB []) 2 68 dv wv w hT (o1.sl fun _ => rfl) (o2.sl fun _ => rfl) (by decide)).mono fun e w' h => ⟨h.1.trans ?_, h.2⟩
  kernel_rfl
theorem exAsideB (w : World) (v : Value) (base : Nat) (hT : Tab w) (tv : TwinV (exB []) base v w) : Calls Tryd.prog 35 #[v, .int .i64 61] w fun e w' => e = .returned (.tuple #[.int .u8 2, .int .i64 0]) ∧ Ext w w' := by
  obtain ⟨dv, wv, rfl, o1, o2⟩ := tv
  refine (aside_any (exB []) 61 dv wv w hT (o1.sl fun _ => rfl) (o2.sl fun _ => rfl)).mono fun e w' h => ⟨h.1.trans ?_, h.2⟩
  kernel_rfl
theorem odLayer4 (w : World) (v : Value) (base : Nat) (hT : Tab w) (tv : TwinV (exB [odD]) base v w) : Calls Tryd.prog 18 #[v, .int .i64 4] w fun e w' => e = .returned (.tuple #[.agg #[.int .i64 0, .int .i64 0], .int .i64 31]) ∧ Ext w w' := by
  obtain ⟨dv, wv, rfl, o1, o2⟩ := tv
  refine (layer_any (exB [odD]) 4 dv wv w hT (o1.sl fun _ => rfl) (o2.sl fun _ => rfl)).mono fun e w' h => ⟨h.1.trans ?_, h.2⟩
  kernel_rfl
theorem odLayer3 (w : World) (v : Value) (base : Nat) (hT : Tab w) (tv : TwinV (exB [odD]) base v w) : Calls Tryd.prog 18 #[v, .int .i64 3] w fun e w' => e = .returned (.tuple #[.agg #[.int .i64 0, .int .i64 0], .int .i64 8]) ∧ Ext w w' := by
  obtain ⟨dv, wv, rfl, o1, o2⟩ := tv
  refine (layer_any (exB [odD]) 3 dv wv w hT (o1.sl fun _ => rfl) (o2.sl fun _ => rfl)).mono fun e w' h => ⟨h.1.trans ?_, h.2⟩
  kernel_rfl
theorem odKind5 (w : World) (v : Value) (base : Nat) (hT : Tab w) (tv : TwinV (exB [odD]) base v w) : Calls Tryd.prog 37 #[v, .int .i64 5] w fun e w' => e = .returned (.tuple #[.int .u8 0, .int .i64 32]) ∧ Ext w w' := by
  obtain ⟨dv, wv, rfl, o1, o2⟩ := tv
  refine (kindC_any (exB [odD]) 5 dv wv w hT (o1.sl fun _ => rfl) (o2.sl fun _ => rfl)).mono fun e w' h => ⟨h.1.trans ?_, h.2⟩
  kernel_rfl
theorem odWet3 (w : World) (v : Value) (base : Nat) (hT : Tab w) (tv : TwinV (exB [odD]) base v w) : Calls Tryd.prog 29 #[v, .int .i64 3] w fun e w' => e = .returned (.tuple #[.agg #[.int .i64 0, .int .i64 0], .int .i64 6]) ∧ Ext w w' := by
  obtain ⟨dv, wv, rfl, o1, o2⟩ := tv
  refine (wet_any (exB [odD]) 3 dv wv w hT (o1.sl fun _ => rfl) (o2.sl fun _ => rfl) (by decide)).mono fun e w' h => ⟨h.1.trans ?_, h.2⟩
  kernel_rfl
theorem odKnown (w : World) (v : Value) (base : Nat) (hT : Tab w) (tv : TwinV (exB [odD]) base v w) : Calls Tryd.prog 33 #[v, .int .i64 1, .int .i64 0] w fun e w' => e = .returned (.tuple #[.int .u8 0, .int .i64 8]) ∧ Ext w w' := by
  obtain ⟨dv, wv, rfl, o1, o2⟩ := tv
  refine (known_any (exB [odD]) 1 0 dv wv w hT (o1.sl fun _ => rfl) (o2.sl fun _ => rfl) (by decide)).mono fun e w' h => ⟨h.1.trans ?_, h.2⟩
  kernel_rfl
theorem odPays (w : World) (v : Value) (base : Nat) (hT : Tab w) (tv : TwinV (exB [odD]) base v w) : Calls Tryd.prog 31 #[v, .int .i64 201] w fun e w' => e = .returned (.tuple #[.agg #[.int .i64 0, .int .i64 0], .int .i64 35]) ∧ Ext w w' := by
  obtain ⟨dv, wv, rfl, o1, o2⟩ := tv
  refine (pays_any (exB [odD]) 201 dv wv w hT (o1.sl fun _ => rfl) (o2.sl fun _ => rfl)).mono fun e w' h => ⟨h.1.trans ?_, h.2⟩
  kernel_rfl
theorem odAside (w : World) (v : Value) (base : Nat) (hT : Tab w) (tv : TwinV (exB [odD]) base v w) : Calls Tryd.prog 35 #[v, .int .i64 (-1)] w fun e w' => e = .returned (.tuple #[.int .u8 0, .int .i64 35]) ∧ Ext w w' := by
  obtain ⟨dv, wv, rfl, o1, o2⟩ := tv
  refine (aside_any (exB [odD]) (-1) dv wv w hT (o1.sl fun _ => rfl) (o2.sl fun _ => rfl)).mono fun e w' h => ⟨h.1.trans ?_, h.2⟩
  kernel_rfl
theorem toLayer (w : World) (dv wv : Value) (hT : Tab w) (hd : SlD w dv exTorn.draws) (hw : SlW w wv exTorn.weighs) : Calls Tryd.prog 18 #[valB exTorn dv wv, .int .i64 9] w fun e w' => e = .returned (.tuple #[.agg #[.int .i64 0, .int .i64 0], .int .i64 30]) ∧ Ext w w' := by
  refine (layer_any exTorn 9 dv wv w hT hd hw).mono fun e w' h => ⟨h.1.trans ?_, h.2⟩
  kernel_rfl
theorem weKind (w : World) (dv wv : Value) (hT : Tab w) (hd : SlD w dv exWetB.draws) (hw : SlW w wv exWetB.weighs) : Calls Tryd.prog 37 #[valB exWetB dv wv, .int .i64 1] w fun e w' => e = .returned (.tuple #[.int .u8 0, .int .i64 8]) ∧ Ext w w' := by
  refine (kindC_any exWetB 1 dv wv w hT hd hw).mono fun e w' h => ⟨h.1.trans ?_, h.2⟩
  kernel_rfl
theorem plCut (w : World) (dv wv : Value) (hT : Tab w) (hd : SlD w dv exPlain.draws) (hw : SlW w wv exPlain.weighs) : Calls Tryd.prog 39 #[valB exPlain dv wv] w fun e w' => e = .returned (.tuple #[.agg #[.int .i64 0, .int .i64 0], .int .i64 6]) ∧ Ext w w' := by
  refine (cut_any exPlain dv wv w hT hd hw).mono fun e w' h => ⟨h.1.trans ?_, h.2⟩
  kernel_rfl
theorem toCheck (w : World) (dv wv : Value) (hT : Tab w) (hd : SlD w dv exTorn.draws) (hw : SlW w wv exTorn.weighs) : Calls Tryd.prog 20 #[valB exTorn dv wv] w fun e w' => e = .returned (.int .i64 30) ∧ Ext w w' := by
  refine (check_any exTorn dv wv w hT hd hw).mono fun e w' h => ⟨h.1.trans ?_, h.2⟩
  kernel_rfl
theorem fuCheck (w : World) (dv wv : Value) (hT : Tab w) (hd : SlD w dv exFull.draws) (hw : SlW w wv exFull.weighs) : Calls Tryd.prog 20 #[valB exFull dv wv] w fun e w' => e = .returned (.int .i64 0) ∧ Ext w w' := by
  refine (check_any exFull dv wv w hT hd hw).mono fun e w' h => ⟨h.1.trans ?_, h.2⟩
  kernel_rfl
theorem exKindK (w : World) (v : Value) (base k : Nat) (hT : Tab w) (tv : TwinV (exB []) base v w) (hk : k < 4) : Calls Tryd.prog 37 #[v, .int .i64 ((k : Int) + 1)] w fun e w' => e = .returned (.tuple #[.int .u8 1, .int .i64 0]) ∧ Ext w w' := by
  obtain ⟨dv, wv, rfl, o1, o2⟩ := tv
  refine (kindC_any (exB []) ((k : Int) + 1) dv wv w hT (o1.sl fun _ => rfl) (o2.sl fun _ => rfl)).mono fun e w' h => ⟨h.1.trans ?_, h.2⟩
  obtain rfl | rfl | rfl | rfl : k = 0 ∨ k = 1 ∨ k = 2 ∨ k = 3 := by omega
  all_goals kernel_rfl
/-- Bales that are told to be none. -/
theorem no_twin {base : Nat} {v : Value} {W : World} (h : TwinV noB base v W) : ∃ A n c A2 n2 c2, v = .agg #[.int .i64 0, .int .i64 0, .int .i64 0, .int .i64 0, .slice A n c, .slice A2 n2 c2] := by
  obtain ⟨dv, wv, rfl, o1, o2⟩ := h
  obtain ⟨A, n, c, rfl, -, -, -⟩ := (show SlD W dv [] from o1.sl (fun _ => rfl)).form
  obtain ⟨A2, n2, c2, rfl, -, -, -⟩ := (show SlW W wv [] from o2.sl (fun _ => rfl)).form
  exact ⟨A, n, c, A2, n2, c2, rfl⟩
theorem exPutF (w : World) (dv wv : Value) (hT : Tab w) (hd : SlD w dv exFull.draws) (hw : SlW w wv exFull.weighs) : Calls Tryd.prog 48 #[valB exFull dv wv, valD zd] w fun e w' => (∃ A n c A2 n2 c2, e = .returned (.tuple #[.agg #[.int .i64 0, .int .i64 0, .int .i64 0, .int .i64 0, .slice A n c, .slice A2 n2 c2], .int .i64 9])) ∧ Ext w w' := by
  refine (f48_any exFull zd dv wv w hT hd hw).mono ?_
  rintro e w' ⟨⟨v, rfl, tv⟩, hE⟩
  have h : putE exFull zd = 9 := by kernel_rfl
  have h2 : putB exFull zd = noB := by unfold putB; rw [h]; rfl
  rw [h2] at tv
  obtain ⟨A, n, c, A2, n2, c2, rfl⟩ := no_twin tv
  exact ⟨⟨A, n, c, A2, n2, c2, by rw [h]⟩, hE⟩
theorem exPutD (w : World) (v : Value) (base : Nat) (hT : Tab w) (tv : TwinV (exB []) base v w) : Calls Tryd.prog 48 #[v, valD ⟨3, 0, ⟨1, 9⟩⟩] w fun e w' => (∃ A n c A2 n2 c2, e = .returned (.tuple #[.agg #[.int .i64 0, .int .i64 0, .int .i64 0, .int .i64 0, .slice A n c, .slice A2 n2 c2], .int .i64 33])) ∧ Ext w w' := by
  obtain ⟨dv, wv, rfl, o1, o2⟩ := tv
  refine (f48_any (exB []) ⟨3, 0, ⟨1, 9⟩⟩ dv wv w hT (o1.sl fun _ => rfl) (o2.sl fun _ => rfl)).mono ?_
  rintro e w' ⟨⟨v, rfl, tv⟩, hE⟩
  have h : putE (exB []) ⟨3, 0, ⟨1, 9⟩⟩ = 33 := by kernel_rfl
  have h2 : putB (exB []) ⟨3, 0, ⟨1, 9⟩⟩ = noB := by unfold putB; rw [h]; rfl
  rw [h2] at tv
  obtain ⟨A, n, c, A2, n2, c2, rfl⟩ := no_twin tv
  exact ⟨⟨A, n, c, A2, n2, c2, by rw [h]⟩, hE⟩
theorem exLiftF (w : World) (dv wv : Value) (hT : Tab w) (hd : SlD w dv exFull.draws) (hw : SlW w wv exFull.weighs) : Calls Tryd.prog 50 #[valB exFull dv wv, valW zw] w fun e w' => (∃ A n c A2 n2 c2, e = .returned (.tuple #[.agg #[.int .i64 0, .int .i64 0, .int .i64 0, .int .i64 0, .slice A n c, .slice A2 n2 c2], .int .i64 9])) ∧ Ext w w' := by
  refine (f50_any exFull zw dv wv w hT hd hw).mono ?_
  rintro e w' ⟨⟨v, rfl, tv⟩, hE⟩
  have h : liftE exFull zw = 9 := by kernel_rfl
  have h2 : liftB exFull zw = noB := by unfold liftB; rw [h]; rfl
  rw [h2] at tv
  obtain ⟨A, n, c, A2, n2, c2, rfl⟩ := no_twin tv
  exact ⟨⟨A, n, c, A2, n2, c2, by rw [h]⟩, hE⟩
theorem exLiftD (w : World) (v : Value) (base : Nat) (hT : Tab w) (tv : TwinV (exB []) base v w) : Calls Tryd.prog 50 #[v, valW ⟨3, 0, ⟨0, 9⟩⟩] w fun e w' => (∃ A n c A2 n2 c2, e = .returned (.tuple #[.agg #[.int .i64 0, .int .i64 0, .int .i64 0, .int .i64 0, .slice A n c, .slice A2 n2 c2], .int .i64 34])) ∧ Ext w w' := by
  obtain ⟨dv, wv, rfl, o1, o2⟩ := tv
  refine (f50_any (exB []) ⟨3, 0, ⟨0, 9⟩⟩ dv wv w hT (o1.sl fun _ => rfl) (o2.sl fun _ => rfl)).mono ?_
  rintro e w' ⟨⟨v, rfl, tv⟩, hE⟩
  have h : liftE (exB []) ⟨3, 0, ⟨0, 9⟩⟩ = 34 := by kernel_rfl
  have h2 : liftB (exB []) ⟨3, 0, ⟨0, 9⟩⟩ = noB := by unfold liftB; rw [h]; rfl
  rw [h2] at tv
  obtain ⟨A, n, c, A2, n2, c2, rfl⟩ := no_twin tv
  exact ⟨⟨A, n, c, A2, n2, c2, by rw [h]⟩, hE⟩
theorem exStrike1 (w : World) (v lv kv : Value) (base : Nat) (hT : Tab w) (tv : TwinV (exB []) base v w) (hl : SlI w lv [4]) (hk : SlI w kv [9]) : Calls Tryd.prog 52 #[v, lv, kv] w fun e w' => (∃ A n c A2 n2 c2, e = .returned (.tuple #[.agg #[.int .i64 0, .int .i64 0, .int .i64 0, .int .i64 0, .slice A n c, .slice A2 n2 c2], .int .i64 33])) ∧ Ext w w' := by
  obtain ⟨dv, wv, rfl, o1, o2⟩ := tv
  refine (strike_any (exB []) [4] [9] dv wv lv kv w hT (o1.sl fun _ => rfl) (o2.sl fun _ => rfl) hl hk (by decide) (by decide)).mono ?_
  rintro e w' ⟨⟨v, rfl, tv⟩, hE⟩
  have h : strikeE (exB []) [4] [9] = 33 := by kernel_rfl
  have h2 : strikeB (exB []) [4] [9] = noB := by unfold strikeB; rw [h]; rfl
  rw [h2] at tv
  obtain ⟨A, n, c, A2, n2, c2, rfl⟩ := no_twin tv
  exact ⟨⟨A, n, c, A2, n2, c2, by rw [h]⟩, hE⟩
theorem exStrike2 (w : World) (v lv kv : Value) (base : Nat) (hT : Tab w) (tv : TwinV (exB []) base v w) (hl : SlI w lv [1, 3]) (hk : SlI w kv [9]) : Calls Tryd.prog 52 #[v, lv, kv] w fun e w' => (∃ A n c A2 n2 c2, e = .returned (.tuple #[.agg #[.int .i64 0, .int .i64 0, .int .i64 0, .int .i64 0, .slice A n c, .slice A2 n2 c2], .int .i64 34])) ∧ Ext w w' := by
  obtain ⟨dv, wv, rfl, o1, o2⟩ := tv
  refine (strike_any (exB []) [1, 3] [9] dv wv lv kv w hT (o1.sl fun _ => rfl) (o2.sl fun _ => rfl) hl hk (by decide) (by decide)).mono ?_
  rintro e w' ⟨⟨v, rfl, tv⟩, hE⟩
  have h : strikeE (exB []) [1, 3] [9] = 34 := by kernel_rfl
  have h2 : strikeB (exB []) [1, 3] [9] = noB := by unfold strikeB; rw [h]; rfl
  rw [h2] at tv
  obtain ⟨A, n, c, A2, n2, c2, rfl⟩ := no_twin tv
  exact ⟨⟨A, n, c, A2, n2, c2, by rw [h]⟩, hE⟩
theorem exWetWrong (w : World) (dv wv : Value) (hT : Tab w) (hd : SlD w dv exWetB.draws) (hw : SlW w wv exWetB.weighs) : Calls Tryd.prog 46 #[valB exWetB dv wv] w fun e w' => (∃ u u', e = .returned (.tuple #[u, u', .int .i64 0]) ∧ SlI w' u' [1]) ∧ Ext w w' := by
  refine (wrong_any exWetB dv wv w hT hd hw).mono ?_
  rintro e w' ⟨u, u', rfl, h, h', hE⟩
  rw [show wrongK exWetB = [1] by kernel_rfl] at h'
  exact ⟨⟨u, u', by rw [show wrongE exWetB = 0 by kernel_rfl], h'⟩, hE⟩
end Go.Proofs.YtdlipbobfgdleaaDoor
/- middlinglaw03.CoreExamples: the walk's last part. -/
namespace Go.Proofs.YtdlipbobfgdleaaDoor
open Go.RowKit Go.Shelf Go.Lib
set_option maxRecDepth 100000
set_option linter.unusedSimpArgs false

/-- What is left of a text behind n parts. -/
def restAt : Nat → Code → Code
  | n + 1, .seq _ y => restAt n y
  | _, c => c

set_option maxHeartbeats 16000000 in
theorem exC_any {s0 s1 s2 s3 s4 s5 s6 s7 s8 s9 s10 s11 s12 s13 s14 s15 s20 s21 s22 s23 s24 s25 s26 s27 s28 s29 s30 s31 s32 s33 s34 s35 s36 s37 s38 s39 s40 s41 s42 s43 s44 s45 s46 s47 s48 s49 s50 s51 s52 s53 s54 s55 s56 s57 s58 s59 s60 s61 s62 s63 s64 s65 s66 s67 s68 s69 s70 s71 s72 s73 s74 s75 s76 s77 s78 s79 s80 s81 s82 s83 s84 s85 s86 s87 s88 s89 s90 s91 s92 s93 s94 s95 s96 s97 s98 s99 s100 s101 s102 s103 s104 s105 s106 s107 s108 s109 s110 s111 s112 s113 s114 s115 s116 s117 s118 s119 s120 s121 s122 s123 s124 s125 s126 s127 s128 s129 s130 s131 s132 s133 s134 s135 s136 s137 s138 s139 s140 s141 s142 s143 s144 s145 s146 s147 s148 s149 s150 s151 s152 s153 s154 s155 s156 s157 s158 s159 s160 s161 s162 s163 s164 s165 s166 s167 s168 s169 s170 s171 s172 s173 s174 s175 s176 s177 s178 s179 s180 s181 s182 s183 s184 s185 s186 s187 s188 s189 s190 s191 s192 s193 s194 s195 s196 s197 s198 s199 s200 s201 s202 s203 s204 s205 s206 s207 s208 s209 s210 s211 s212 s213 s214 s215 s216 s217 s218 s219 s220 s221 s222 s223 s224 s225 s226 s227 s228 s229 s230 s231 s232 s233 s234 s235 s236 s237 s238 s239 s240 s241 s242 s243 s244 s245 s246 s247 s248 s249 s250 s251 s252 s253 s254 s255 s256 s257 s258 s259 s260 s261 s262 s263 s264 s265 s266 s267 s268 s269 s270 s271 s272 s273 s274 s275 s276 s277 s278 s279 s280 s281 s282 s283 s284 s285 s286 s287 s288 s289 s290 s291 s292 s293 s294 s295 s296 s297 s298 s299 s300 s301 s302 s303 s304 s305 s306 s307 s308 s309 s310 s311 s312 s313 s314 s315 s316 s317 s318 s319 s320 s321 s322 s323 s324 s325 s326 s327 s328 s329 s330 s331 s332 s333 s334 s335 s336 s337 s338 s339 s340 s341 s342 s343 s344 s345 s346 s347 s348 s349 s350 s351 s352 s353 s354 s355 s356 s357 s358 : Value} {p16 p17 p18 p19 : Nat} {W1 W2 W3 W4 w w8 : World} {A1 A2 A3 A4 A5 A6 A7 A8 : Option Addr} {n1 n2 n3 n4 n5 n6 n7 n8 c1 c2 c3 c4 c5 c6 c7 c8 : Nat} (hT : Tab w8) (hE0 : Ext w w8)
    (h1 : SB exTorn W1 p16 (.slice A1 n1 c1) (.slice A2 n2 c2) w8) (h2 : SB exFull W2 p17 (.slice A3 n3 c3) (.slice A4 n4 c4) w8) (h3 : SB exWetB W3 p18 (.slice A5 n5 c5) (.slice A6 n6 c6) w8) (h4 : SB exPlain W4 p19 (.slice A7 n7 c7) (.slice A8 n8 c8) w8) :
    (restAt 15 (Tryd.f13.body.getD .skip)).wp Tryd.prog (bodyPost Tryd.prog Tryd.f13 fun e w' => e = .returned (.bool true) ∧ Ext w w') { tmps := #[s0, s1, s2, s3, s4, s5, s6, s7, s8, s9, s10, s11, s12, s13, s14, s15, .pointer (some ⟨p16, 0, none⟩), .pointer (some ⟨p17, 0, none⟩), .pointer (some ⟨p18, 0, none⟩), .pointer (some ⟨p19, 0, none⟩), s20, s21, s22, s23, s24, s25, s26, s27, s28, s29, s30, s31, s32, s33, s34, s35, s36, s37, s38, s39, s40, s41, s42, s43, s44, s45, s46, s47, s48, s49, s50, s51, s52, s53, s54, s55, s56, s57, s58, s59, s60, s61, s62, s63, s64, s65, s66, s67, s68, s69, s70, s71, s72, s73, s74, s75, s76, s77, s78, s79, s80, s81, s82, s83, s84, s85, s86, s87, s88, s89, s90, s91, s92, s93, s94, s95, s96, s97, s98, s99, s100, s101, s102, s103, s104, s105, s106, s107, s108, s109, s110, s111, s112, s113, s114, s115, s116, s117, s118, s119, s120, s121, s122, s123, s124, s125, s126, s127, s128, s129, s130, s131, s132, s133, s134, s135, s136, s137, s138, s139, s140, s141, s142, s143, s144, s145, s146, s147, s148, s149, s150, s151, s152, s153, s154, s155, s156, s157, s158, s159, s160, s161, s162, s163, s164, s165, s166, s167, s168, s169, s170, s171, s172, s173, s174, s175, s176, s177, s178, s179, s180, s181, s182, s183, s184, s185, s186, s187, s188, s189, s190, s191, s192, s193, s194, s195, s196, s197, s198, s199, s200, s201, s202, s203, s204, s205, s206, s207, s208, s209, s210, s211, s212, s213, s214, s215, s216, s217, s218, s219, s220, s221, s222, s223, s224, s225, s226, s227, s228, s229, s230, s231, s232, s233, s234, s235, s236, s237, s238, s239, s240, s241, s242, s243, s244, s245, s246, s247, s248, s249, s250, s251, s252, s253, s254, s255, s256, s257, s258, s259, s260, s261, s262, s263, s264, s265, s266, s267, s268, s269, s270, s271, s272, s273, s274, s275, s276, s277, s278, s279, s280, s281, s282, s283, s284, s285, s286, s287, s288, s289, s290, s291, s292, s293, s294, s295, s296, s297, s298, s299, s300, s301, s302, s303, s304, s305, s306, s307, s308, s309, s310, s311, s312, s313, s314, s315, s316, s317, s318, s319, s320, s321, s322, s323, s324, s325, s326, s327, s328, s329, s330, s331, s332, s333, s334, s335, s336, s337, s338, s339, s340, s341, s342, s343, s344, s345, s346, s347, s348, s349, s350, s351, s352, s353, s354, s355, s356, s357, s358], defers := [] } w8 := by
  have HT := Lib.hid hT
  have H1 := Lib.hid h1
  have H2 := Lib.hid h2
  have H3 := Lib.hid h3
  have H4 := Lib.hid h4
  have HE0 := Lib.hid hE0
  have E := Lib.hid (Ext.refl w8)
  clear hT h1 h2 h3 h4 hE0
  delta Tryd.f13
  simp only [restAt, Option.getD_some]
  obtain ⟨y0, y1, y2, y3, y4, y5, yl⟩ := (H1.out.ext E.out).cells
  go_wp2_with fail
  clear y0 y1 y2 y3 y4 y5 yl
  refine (toLayer _ _ _ (HT.out.ext E.out) (H1.out.d.ext E.out) (H1.out.w.ext E.out)).mono ?_
  rintro e w9 ⟨rfl, hE⟩
  replace E := Lib.hid (E.out.trans hE)
  clear hE
  go_wp2_with fail
  refine (odd_any _).mono ?_
  rintro e w10 ⟨⟨v, rfl, tv⟩, hE⟩
  replace E := Lib.hid (E.out.trans hE)
  have TV := Lib.hid tv; clear hE tv
  go_wp2_with fail
  refine (odLayer4 _ _ _ (HT.out.ext E.out) TV.out).mono ?_
  rintro e w11 ⟨rfl, hE⟩
  replace E := Lib.hid (E.out.trans hE)
  clear TV hE
  go_wp2_with fail
  refine (odd_any _).mono ?_
  rintro e w12 ⟨⟨v, rfl, tv⟩, hE⟩
  replace E := Lib.hid (E.out.trans hE)
  have TV := Lib.hid tv; clear hE tv
  go_wp2_with fail
  refine (odLayer3 _ _ _ (HT.out.ext E.out) TV.out).mono ?_
  rintro e w13 ⟨rfl, hE⟩
  replace E := Lib.hid (E.out.trans hE)
  clear TV hE
  go_wp2_with fail
  refine (odd_any _).mono ?_
  rintro e w14 ⟨⟨v, rfl, tv⟩, hE⟩
  replace E := Lib.hid (E.out.trans hE)
  have TV := Lib.hid tv; clear hE tv
  go_wp2_with fail
  refine (odKind5 _ _ _ (HT.out.ext E.out) TV.out).mono ?_
  rintro e w15 ⟨rfl, hE⟩
  replace E := Lib.hid (E.out.trans hE)
  clear TV hE
  obtain ⟨y0, y1, y2, y3, y4, y5, yl⟩ := (H3.out.ext E.out).cells
  go_wp2_with fail
  clear y0 y1 y2 y3 y4 y5 yl
  refine (weKind _ _ _ (HT.out.ext E.out) (H3.out.d.ext E.out) (H3.out.w.ext E.out)).mono ?_
  rintro e w16 ⟨rfl, hE⟩
  replace E := Lib.hid (E.out.trans hE)
  clear hE
  obtain ⟨y0, y1, y2, y3, y4, y5, yl⟩ := (H4.out.ext E.out).cells
  go_wp2_with fail
  clear y0 y1 y2 y3 y4 y5 yl
  refine (plCut _ _ _ (HT.out.ext E.out) (H4.out.d.ext E.out) (H4.out.w.ext E.out)).mono ?_
  rintro e w17 ⟨rfl, hE⟩
  replace E := Lib.hid (E.out.trans hE)
  clear hE
  go_wp2_with fail
  refine (odd_any _).mono ?_
  rintro e w18 ⟨⟨v, rfl, tv⟩, hE⟩
  replace E := Lib.hid (E.out.trans hE)
  have TV := Lib.hid tv; clear hE tv
  go_wp2_with fail
  refine (odWet3 _ _ _ (HT.out.ext E.out) TV.out).mono ?_
  rintro e w19 ⟨rfl, hE⟩
  replace E := Lib.hid (E.out.trans hE)
  clear TV hE
  go_wp2_with fail
  replace E := Lib.hid (E.out.alloc (.cells #[.int .i64 0, .int .i64 0] 23))
  refine (odd_any _).mono ?_
  rintro e w20 ⟨⟨v, rfl, tv⟩, hE⟩
  replace E := Lib.hid (E.out.trans hE)
  have TV := Lib.hid tv; clear hE tv
  go_wp2_with fail
  refine (odKnown _ _ _ (HT.out.ext E.out) TV.out).mono ?_
  rintro e w21 ⟨rfl, hE⟩
  replace E := Lib.hid (E.out.trans hE)
  clear TV hE
  go_wp2_with fail
  refine (odd_any _).mono ?_
  rintro e w22 ⟨⟨v, rfl, tv⟩, hE⟩
  replace E := Lib.hid (E.out.trans hE)
  have TV := Lib.hid tv; clear hE tv
  go_wp2_with fail
  refine (odPays _ _ _ (HT.out.ext E.out) TV.out).mono ?_
  rintro e w23 ⟨rfl, hE⟩
  replace E := Lib.hid (E.out.trans hE)
  clear TV hE
  go_wp2_with fail
  replace E := Lib.hid (E.out.alloc (.cells #[.int .i64 0, .int .i64 0] 23))
  refine (odd_any _).mono ?_
  rintro e w24 ⟨⟨v, rfl, tv⟩, hE⟩
  replace E := Lib.hid (E.out.trans hE)
  have TV := Lib.hid tv; clear hE tv
  go_wp2_with fail
  refine (odAside _ _ _ (HT.out.ext E.out) TV.out).mono ?_
  rintro e w25 ⟨rfl, hE⟩
  replace E := Lib.hid (E.out.trans hE)
  clear TV hE
  obtain ⟨y0, y1, y2, y3, y4, y5, yl⟩ := (H2.out.ext E.out).cells
  go_wp2_with fail
  clear y0 y1 y2 y3 y4 y5 yl
  refine (exPutF _ _ _ (HT.out.ext E.out) (H2.out.d.ext E.out) (H2.out.w.ext E.out)).mono ?_
  rintro e w26 ⟨⟨X1, m1, q1, Y1, k1, r1, rfl⟩, hE⟩
  replace E := Lib.hid (E.out.trans hE)
  clear hE
  go_wp2_with fail
  replace E := Lib.hid (E.out.alloc (.cells #[.int .i64 0, .int .i64 0, .int .i64 0, .int .i64 0, .slice X1 m1 q1, .slice Y1 k1 r1] 27))
  refine (bale0_any _).mono ?_
  rintro e w27 ⟨⟨v, rfl, tv⟩, hE⟩
  replace E := Lib.hid (E.out.trans hE)
  have TV := Lib.hid tv; clear hE tv
  go_wp2_with fail
  refine (draw_any 3 0 1 9 _).mono ?_
  rintro e w28 ⟨rfl, hE⟩
  replace E := Lib.hid (E.out.trans hE)
  replace TV := Lib.hid (TV.out.ext hE)
  clear hE
  go_wp2_with fail
  refine (exPutD _ _ _ (HT.out.ext E.out) TV.out).mono ?_
  rintro e w29 ⟨⟨X2, m2, q2, Y2, k2, r2, rfl⟩, hE⟩
  replace E := Lib.hid (E.out.trans hE)
  clear TV hE
  obtain ⟨y0, y1, y2, y3, y4, y5, yl⟩ := (H2.out.ext E.out).cells
  go_wp2_with fail
  clear y0 y1 y2 y3 y4 y5 yl
  replace E := Lib.hid (E.out.alloc (.cells #[.int .i64 0, .int .i64 0, .int .i64 0, .int .i64 0, .slice X2 m2 q2, .slice Y2 k2 r2] 27))
  refine (exLiftF _ _ _ (HT.out.ext E.out) (H2.out.d.ext E.out) (H2.out.w.ext E.out)).mono ?_
  rintro e w30 ⟨⟨X3, m3, q3, Y3, k3, r3, rfl⟩, hE⟩
  replace E := Lib.hid (E.out.trans hE)
  clear hE
  go_wp2_with fail
  replace E := Lib.hid (E.out.alloc (.cells #[.int .i64 0, .int .i64 0, .int .i64 0, .int .i64 0, .slice X3 m3 q3, .slice Y3 k3 r3] 27))
  refine (bale0_any _).mono ?_
  rintro e w31 ⟨⟨v, rfl, tv⟩, hE⟩
  replace E := Lib.hid (E.out.trans hE)
  have TV := Lib.hid tv; clear hE tv
  go_wp2_with fail
  refine (weigh_any 3 0 0 9 _).mono ?_
  rintro e w32 ⟨rfl, hE⟩
  replace E := Lib.hid (E.out.trans hE)
  replace TV := Lib.hid (TV.out.ext hE)
  clear hE
  go_wp2_with fail
  refine (exLiftD _ _ _ (HT.out.ext E.out) TV.out).mono ?_
  rintro e w33 ⟨⟨X4, m4, q4, Y4, k4, r4, rfl⟩, hE⟩
  replace E := Lib.hid (E.out.trans hE)
  clear TV hE
  go_wp2_with fail
  replace E := Lib.hid (E.out.alloc (.cells #[.int .i64 0, .int .i64 0, .int .i64 0, .int .i64 0, .slice X4 m4 q4, .slice Y4 k4 r4] 27))
  refine (bale0_any _).mono ?_
  rintro e w34 ⟨⟨v, rfl, tv⟩, hE⟩
  replace E := Lib.hid (E.out.trans hE)
  have TV := Lib.hid tv; clear hE tv
  go_wp2_with fail
  have EA := Lib.hid ((Ext.al w34 (.cells #[.int .i64 4] 3)).alloc (.cells #[.int .i64 9] 3))
  have L1 := Lib.hid (show SlI ((w34.alloc (.cells #[.int .i64 4] 3)).alloc (.cells #[.int .i64 9] 3)) (.slice (some ⟨w34.heap.size, 0, none⟩) 1 1) [4] from (Own.sl (enc := encI) (sz := 1) (fun _ => rfl) (Own.lit (enc := encI) (sz := 1) (e := 3) (base := 0) (l := ([4] : List Int)) (fun _ => rfl) (Blk.new w34 3 #[.int .i64 4]) (by simp) (Nat.zero_le _) (by decide))).ext (Ext.al _ _))
  have L2 := Lib.hid (show SlI ((w34.alloc (.cells #[.int .i64 4] 3)).alloc (.cells #[.int .i64 9] 3)) (.slice (some ⟨w34.heap.size + 1, 0, none⟩) 1 1) [9] from Own.sl (enc := encI) (sz := 1) (fun _ => rfl) (Own.lit (enc := encI) (sz := 1) (e := 3) (base := 0) (l := ([9] : List Int)) (fun _ => rfl) (Blk.at_ (by simp)) (by simp) (Nat.zero_le _) (by decide)))
  replace TV := Lib.hid (TV.out.ext EA.out)
  replace E := Lib.hid (E.out.trans EA.out)
  refine (exStrike1 _ _ _ _ _ (HT.out.ext E.out) TV.out L1.out L2.out).mono ?_
  rintro e w35 ⟨⟨X5, m5, q5, Y5, k5, r5, rfl⟩, hE⟩
  replace E := Lib.hid (E.out.trans hE)
  clear TV hE L1 L2 EA
  go_wp2_with fail
  replace E := Lib.hid (E.out.alloc (.cells #[.int .i64 0, .int .i64 0, .int .i64 0, .int .i64 0, .slice X5 m5 q5, .slice Y5 k5 r5] 27))
  refine (bale0_any _).mono ?_
  rintro e w36 ⟨⟨v, rfl, tv⟩, hE⟩
  replace E := Lib.hid (E.out.trans hE)
  have TV := Lib.hid tv; clear hE tv
  go_wp2_with fail
  have EA := Lib.hid ((Ext.al w36 (.cells #[.int .i64 1, .int .i64 3] 3)).alloc (.cells #[.int .i64 9] 3))
  have L1 := Lib.hid (show SlI ((w36.alloc (.cells #[.int .i64 1, .int .i64 3] 3)).alloc (.cells #[.int .i64 9] 3)) (.slice (some ⟨w36.heap.size, 0, none⟩) 2 2) [1, 3] from (Own.sl (enc := encI) (sz := 1) (fun _ => rfl) (Own.lit (enc := encI) (sz := 1) (e := 3) (base := 0) (l := ([1, 3] : List Int)) (fun _ => rfl) (Blk.new w36 3 #[.int .i64 1, .int .i64 3]) (by simp) (Nat.zero_le _) (by decide))).ext (Ext.al _ _))
  have L2 := Lib.hid (show SlI ((w36.alloc (.cells #[.int .i64 1, .int .i64 3] 3)).alloc (.cells #[.int .i64 9] 3)) (.slice (some ⟨w36.heap.size + 1, 0, none⟩) 1 1) [9] from Own.sl (enc := encI) (sz := 1) (fun _ => rfl) (Own.lit (enc := encI) (sz := 1) (e := 3) (base := 0) (l := ([9] : List Int)) (fun _ => rfl) (Blk.at_ (by simp)) (by simp) (Nat.zero_le _) (by decide)))
  replace TV := Lib.hid (TV.out.ext EA.out)
  replace E := Lib.hid (E.out.trans EA.out)
  refine (exStrike2 _ _ _ _ _ (HT.out.ext E.out) TV.out L1.out L2.out).mono ?_
  rintro e w37 ⟨⟨X6, m6, q6, Y6, k6, r6, rfl⟩, hE⟩
  replace E := Lib.hid (E.out.trans hE)
  clear TV hE L1 L2 EA
  obtain ⟨y0, y1, y2, y3, y4, y5, yl⟩ := (H3.out.ext E.out).cells
  go_wp2_with fail
  clear y0 y1 y2 y3 y4 y5 yl
  replace E := Lib.hid (E.out.alloc (.cells #[.int .i64 0, .int .i64 0, .int .i64 0, .int .i64 0, .slice X6 m6 q6, .slice Y6 k6 r6] 27))
  refine (exWetWrong _ _ _ (HT.out.ext E.out) (H3.out.d.ext E.out) (H3.out.w.ext E.out)).mono ?_
  rintro e w38 ⟨⟨u1, u2, rfl, hu⟩, hE⟩
  replace E := Lib.hid (E.out.trans hE)
  clear hE
  have HU := Lib.hid hu; clear hu
  go_wp2_with fail
  have L1 := Lib.hid (show SlI (w38.alloc (.cells #[.int .i64 1] 3)) (.slice (some ⟨w38.heap.size, 0, none⟩) 1 1) [1] from Own.sl (enc := encI) (sz := 1) (fun _ => rfl) (Own.lit (enc := encI) (sz := 1) (e := 3) (base := 0) (l := ([1] : List Int)) (fun _ => rfl) (Blk.new w38 3 #[.int .i64 1]) (by simp) (Nat.zero_le _) (by decide)))
  refine (ints_any [1] _ _ _ (HU.out.ext (Ext.al _ _)) L1.out).mono ?_
  rintro e w90 ⟨rfl, hE⟩
  replace E := Lib.hid ((E.out.alloc (.cells #[.int .i64 1] 3)).trans hE)
  clear hE L1 HU
  obtain ⟨y0, y1, y2, y3, y4, y5, yl⟩ := (H1.out.ext E.out).cells
  go_wp2_with fail
  clear y0 y1 y2 y3 y4 y5 yl
  refine (toCheck _ _ _ (HT.out.ext E.out) (H1.out.d.ext E.out) (H1.out.w.ext E.out)).mono ?_
  rintro e w39 ⟨rfl, hE⟩
  replace E := Lib.hid (E.out.trans hE)
  clear hE
  obtain ⟨y0, y1, y2, y3, y4, y5, yl⟩ := (H2.out.ext E.out).cells
  go_wp2_with fail
  clear y0 y1 y2 y3 y4 y5 yl
  refine (fuCheck _ _ _ (HT.out.ext E.out) (H2.out.d.ext E.out) (H2.out.w.ext E.out)).mono ?_
  rintro e w40 ⟨rfl, hE⟩
  replace E := Lib.hid (E.out.trans hE)
  clear hE
  go_wp2
  go_ret
  exact ⟨rfl, HE0.out.trans E.out⟩
end Go.Proofs.YtdlipbobfgdleaaDoor
