/- core's truths: the function that yields all grades of the layers that are true. -/
import Derived.Test.YtkpengeaolcjhaaGreatDoorPkMlBestCardF
import Derived.Test.YtkpengeaolcjhaaGreatDoorPkMlBestCardG
import Derived.Test.YtkpengeaolcjhaaGreatDoorPkMlBestCardB
import Derived.RangeFuncBound
import Derived.OwnWalkIn
import Derived.TacticsInMore
import Derived.Test.YtkpengeaolcjhaaGreatDoorPkMlBestCardC
namespace Go.Proofs.YtkpengeaolcjhaaGreatDoor
open Go.RowKit Go.Shelf Go.Lib
set_option maxRecDepth 100000
set_option linter.unusedSimpArgs false
attribute [local go_sem] Oper.semAt_some

def gTo (s : Span) (sh : Int) (k : Nat) : List Int := ((List.range k).map fun (i : Nat) => s.lo + (i : Int)).filter fun n => sh == 0 || sh == n
def gradesOf (s : Span) (sh : Int) : List Int := gTo s sh (s.hi - s.lo + 1).toNat
/-- All truths of layers, the lesser grades first. -/
def truthsL : List (Span × Int) → List (List Int)
  | [] => [[]]
  | x :: r => (gradesOf x.1 x.2).flatMap fun n => (truthsL r).map (n :: ·)
/-- .. that begin so. -/
def exts (l : List Int) (r : List (Span × Int)) : List (List Int) := (truthsL r).map (l ++ ·)

/-- What lay's call reads: the press, its spans, what was shown, the two boxes. -/
structure TM (fid : FuncId) (l bp bb off bs by' bl cs : Nat) (sp : List Span) (sh : List Int) (W : World) : Prop where
  p : W.cell? ⟨bp, 6, none⟩ = some (.slice (some ⟨bb, off, none⟩) sp.length cs)
  s : ∀ i x, sp[i]? = some x → W.cell? ⟨bb, off + i * 2, none⟩ = some (.int .i64 x.lo) ∧ W.cell? ⟨bb, off + i * 2 + 1, none⟩ = some (.int .i64 x.hi)
  h : ∀ i n, sh[i]? = some n → W.cell? ⟨bs, i, none⟩ = some (.int .i64 n)
  y : W.cell? ⟨by', 0, none⟩ = some (.func (.yield l) #[] #[])
  f : W.cell? ⟨bl, 0, none⟩ = some (.func (.func fid) #[] #[.pointer (some ⟨bp, 0, none⟩), .pointer (some ⟨by', 0, none⟩), .pointer (some ⟨bs, 0, none⟩), .pointer (some ⟨bl, 0, none⟩)])
theorem is_cells {W : World} {b i : Nat} {v : Value} (h : W.cell? ⟨b, i, none⟩ = some v) : b < W.heap.size ∧ ∃ c t f, W.heap[b]? = some (.cells c t f) := by
  unfold World.cell? at h
  split at h
  · rename_i c t f hb
    exact ⟨(Array.getElem?_eq_some_iff.1 hb).1, _, _, _, hb⟩
  · simp at h
theorem Keep.cell {n₀ : Nat} {X : Nat → Prop} {A B : World} (h : Keep n₀ X A B) {b i : Nat} {v : Value} (hx : ¬ X b) (hc : A.cell? ⟨b, i, none⟩ = some v) : B.cell? ⟨b, i, none⟩ = some v :=
  (World.cell?_of_block (a := ⟨b, i, none⟩) (h.c b (is_cells hc).1 hx (is_cells hc).2)).trans hc
theorem TM.keep {fid : FuncId} {l bp bb off bs by' bl cs n₀ : Nat} {X : Nat → Prop} {sp : List Span} {sh : List Int} {A B : World} (h : TM fid l bp bb off bs by' bl cs sp sh A) (k : Keep n₀ X A B) (x1 : ¬ X bp) (x2 : ¬ X bb) (x3 : ¬ X bs) (x4 : ¬ X by') (x5 : ¬ X bl) : TM fid l bp bb off bs by' bl cs sp sh B :=
  ⟨k.cell x1 h.p, fun i x hx => ⟨k.cell x2 (h.s i x hx).1, k.cell x2 (h.s i x hx).2⟩, fun i n hn => k.cell x3 (h.h i n hn), k.cell x4 h.y, k.cell x5 h.f⟩

theorem Sl.keep {α : Type} {enc : α → List Value} {sz n₀ : Nat} {X : Nat → Prop} {A B : World} {a : Option Addr} {n c : Nat} {l : List α} (h : Sl enc sz A (.slice a n c) l) (k : Keep n₀ X A B) (hx : ∀ b o, a = some ⟨b, o, none⟩ → ¬ X b) : Sl enc sz B (.slice a n c) l := by
  obtain ⟨a', c', hv, hl, hc, hcell⟩ := h
  injection hv with e1 e2 e3
  subst e1 e2 e3
  refine ⟨_, _, rfl, hl, hc, fun h0 => ?_⟩
  obtain ⟨b, off, hA, hb, hcell⟩ := hcell h0
  exact ⟨b, off, hA, Nat.lt_of_lt_of_le hb k.b.size, fun i x hi j u hu => k.cell (hx _ _ hA) (hcell i x hi j u hu)⟩
theorem Sl.cap {α : Type} {enc : α → List Value} {sz : Nat} {A : World} {a : Option Addr} {n c c' : Nat} {l : List α} (h : Sl enc sz A (.slice a n c) l) (h1 : n ≤ c') (h2 : c' ≤ maxLen) : Sl enc sz A (.slice a n c') l := by
  obtain ⟨a', c'', hv, hl, hc, hcell⟩ := h
  injection hv with e1 e2 e3
  subst e1 e2 e3
  exact ⟨_, _, rfl, h1, h2, hcell⟩

@[go_sem] theorem callVal_yield (l : Nat) (vs : Array Value) : callVal (.func (.yield l) #[] #[]) vs = Instr.yield l vs := by
  simp only [callVal, Deferred.ofValue, Array.empty_append, Array.append_empty]
  rfl

/-- Whoever has all grades yields them. -/
theorem lay_leaf {fid : FuncId} {l bp bb off bs by' bl cs n₀ : Nat} {X : Nat → Prop} {sp : List Span} {sh : List Int} {J Jx : List (List Int) → World → Prop} {all : List (List Int)}
    (hY : ∀ m pre x v W1, J pre W1 → SlI W1 v x → pre ++ [x] <+: all → YieldAt Fence.wide m Tryz.prog l #[v] W1 fun e W' => (e = .returned (.bool true) ∧ J (pre ++ [x]) W' ∧ Keep n₀ X W1 W') ∨ (e = .returned (.bool false) ∧ Jx (pre ++ [x]) W'))
    (g : List Int) (lv : Value) (pre : List (List Int)) (W : World) (hg : g.length = sp.length) (hs : SlI W lv g) (hM : TM fid l bp bb off bs by' bl cs sp sh W) (hJ : J pre W) (hp : pre ++ [g] <+: all) :
    Calls Tryz.prog 157 #[lv, .pointer (some ⟨bp, 0, none⟩), .pointer (some ⟨by', 0, none⟩), .pointer (some ⟨bs, 0, none⟩), .pointer (some ⟨bl, 0, none⟩)] W fun e W' =>
      (e = .returned (.bool true) ∧ J (pre ++ [g]) W' ∧ Keep n₀ X W W') ∨ (e = .returned (.bool false) ∧ Jx (pre ++ [g]) W') := by
  obtain ⟨fn, tmps, assign, body, hy, hR⟩ := hY 0 pre g lv W hJ hs hp
  obtain ⟨A, n, c, rfl, hn, hlc, hcm⟩ := hs.form
  have hn' : (n : Int) = (sp.length : Int) := by have := hn.out; omega
  have m0 := hM.p
  have m1 := hM.y
  refine (callsIn_wide (n := 1)).1 (callsIn_of_wp Tryz.func157 rfl trivial ?_ rfl)
  simp only [Tryz.ntmps157, List.size_toArray, List.length_cons, List.length_nil, Nat.reduceAdd, Nat.reduceSub, Array.replicate_succ, Array.replicate_zero, List.push_toArray, List.append_toArray, List.nil_append, List.cons_append]
  gi_wp2_with ((try refine ⟨wide_depth _, ?_⟩); refine hR.mono ?_; clear hR; rintro e W2 (⟨rfl, hJ2, hk⟩ | ⟨rfl, hx⟩))
  · go_ret
    exact .inl ⟨rfl, hJ2, hk⟩
  · go_ret
    exact .inr ⟨rfl, hx⟩

theorem gTo_succ (s : Span) (sh : Int) (k : Nat) : gTo s sh (k + 1) = gTo s sh k ++ (if sh == 0 || sh == s.lo + (k : Int) then [s.lo + (k : Int)] else []) := by
  unfold gTo; rw [List.range_succ, List.map_append, List.filter_append]; simp [List.filter_cons]
theorem exts_cons (g : List Int) (x : Span × Int) (r : List (Span × Int)) : exts g (x :: r) = (gradesOf x.1 x.2).flatMap fun n => exts (g ++ [n]) r := by
  unfold exts
  simp only [truthsL, List.map_flatMap, List.map_map]
  congr 1
  funext n
  refine List.map_congr_left fun l _ => ?_
  simp [Function.comp]
/-- What has come of a layer when so many grades are done. -/
def doneTo (g : List Int) (x : Span × Int) (r : List (Span × Int)) (k : Nat) : List (List Int) := (gTo x.1 x.2 k).flatMap fun n => exts (g ++ [n]) r
theorem doneTo_succ (g : List Int) (x : Span × Int) (r : List (Span × Int)) (k : Nat) : doneTo g x r (k + 1) = doneTo g x r k ++ (if x.2 == 0 || x.2 == x.1.lo + (k : Int) then exts (g ++ [x.1.lo + (k : Int)]) r else []) := by
  unfold doneTo; rw [gTo_succ, List.flatMap_append]; split <;> simp
theorem doneTo_pre (g : List Int) (x : Span × Int) (r : List (Span × Int)) : ∀ {k m : Nat}, k ≤ m → doneTo g x r k <+: doneTo g x r m := by
  intro k m h
  induction m with
  | zero => have : k = 0 := by omega
            subst this; exact List.prefix_refl _
  | succ m ih =>
    by_cases hk : k = m + 1
    · rw [hk]; exact List.prefix_refl _
    · exact (ih (by omega)).trans (by rw [doneTo_succ]; exact List.prefix_append _ _)

/-- A slice of one fresh number. -/
def OneAt (y : Int) (v : Value) (W : World) : Prop := ∃ b', v = .slice (some ⟨b', 0, none⟩) 1 1 ∧ W.cell? ⟨b', 0, none⟩ = some (.int .i64 y) ∧ b' < W.heap.size
theorem OneAt.ext {y : Int} {v : Value} {W W' : World} (h : OneAt y v W) (e : Ext W W') : OneAt y v W' := by
  obtain ⟨b', h1, h2, h3⟩ := h
  exact ⟨b', h1, (e.cells.1 _ _ h3).trans h2, Nat.lt_of_lt_of_le h3 e.size⟩
/-- A fresh slice of numbers. -/
def AppAt (x₀ n : Nat) (l : List Int) (v : Value) (W : World) : Prop := ∃ g' cap, v = .slice (some ⟨g', 0, none⟩) n cap ∧ x₀ ≤ g' ∧ SlI W v l
theorem AppAt.ext {x₀ n : Nat} {l : List Int} {v : Value} {W W' : World} (h : AppAt x₀ n l v W) (e : Ext W W') : AppAt x₀ n l v W' := by
  obtain ⟨g', cap, h1, h2, h3⟩ := h
  exact ⟨g', cap, h1, h2, h3.ext e⟩

set_option maxHeartbeats 4000000 in
theorem lay_any {fid : FuncId} {l bp bb off bs by' bl cs n₀ x₀ : Nat} {X : Nat → Prop} {sp : List Span} {sh : List Int} {J Jx : List (List Int) → World → Prop} {all : List (List Int)}
    (hfid : fid = 157) (hsp : sp.length ≤ 5) (hsh : sh.length = 5) (hbd : ∀ x ∈ sp, 0 ≤ x.lo ∧ x.lo ≤ 1000 ∧ x.hi ≤ 1000) (hX : ∀ b, X b → b < x₀) (x1 : ¬ X bp) (x2 : ¬ X bb) (x3 : ¬ X bs) (x4 : ¬ X by') (x5 : ¬ X bl)
    (hJ0 : ∀ pre A B, J pre A → Ext A B → J pre B)
    (hY : ∀ m pre x v W1, J pre W1 → SlI W1 v x → pre ++ [x] <+: all → YieldAt Fence.wide m Tryz.prog l #[v] W1 fun e W' => (e = .returned (.bool true) ∧ J (pre ++ [x]) W' ∧ Keep n₀ X W1 W') ∨ (e = .returned (.bool false) ∧ Jx (pre ++ [x]) W')) :
    ∀ (k : Nat) (g : List Int) (A : Option Addr) (c : Nat) (pre : List (List Int)) (W₀ : World), g.length + k = sp.length → SlI W₀ (.slice A g.length c) g → (∀ b o, A = some ⟨b, o, none⟩ → ¬ X b) → TM fid l bp bb off bs by' bl cs sp sh W₀ → J pre W₀ → n₀ ≤ W₀.heap.size → x₀ ≤ W₀.heap.size →
      pre ++ exts g ((sp.zip sh).drop g.length) <+: all →
      Calls Tryz.prog 157 #[.slice A g.length c, .pointer (some ⟨bp, 0, none⟩), .pointer (some ⟨by', 0, none⟩), .pointer (some ⟨bs, 0, none⟩), .pointer (some ⟨bl, 0, none⟩)] W₀ fun e W' =>
        (e = .returned (.bool true) ∧ J (pre ++ exts g ((sp.zip sh).drop g.length)) W' ∧ Keep n₀ X W₀ W') ∨ (e = .returned (.bool false) ∧ ∃ q, q <+: exts g ((sp.zip sh).drop g.length) ∧ Jx (pre ++ q) W') := by
  intro k
  induction k with
  | zero =>
    intro g A c pre W₀ hg hs hA hM hJ hn0 hx0 hp
    have hd : (sp.zip sh).drop g.length = [] := List.drop_eq_nil_of_le (by rw [List.length_zip]; omega)
    have he : exts g ((sp.zip sh).drop g.length) = [g] := by rw [hd]; simp [exts, truthsL]
    rw [he] at hp ⊢
    refine (lay_leaf hY g _ pre W₀ (by omega) hs hM hJ hp).mono ?_
    rintro e W' (⟨rfl, h1, h2⟩ | ⟨rfl, h1⟩)
    · exact .inl ⟨rfl, h1, h2⟩
    · exact .inr ⟨rfl, [g], List.prefix_refl _, h1⟩
  | succ k ih =>
    intro g A c pre W₀ hg hs hA hM hJ hn0 hx0 hp
    have hat : g.length < sp.length := by omega
    obtain ⟨x, hx⟩ : ∃ x, sp[g.length]? = some x := ⟨_, List.getElem?_eq_getElem hat⟩
    obtain ⟨s, hs'⟩ : ∃ s, sh[g.length]? = some s := ⟨_, List.getElem?_eq_getElem (by omega)⟩
    have hz : (sp.zip sh)[g.length]? = some (x, s) := by rw [List.getElem?_zip_eq_some]; exact ⟨hx, hs'⟩
    have hdr : (sp.zip sh).drop g.length = (x, s) :: (sp.zip sh).drop (g.length + 1) := by
      obtain ⟨hl, he⟩ := List.getElem?_eq_some_iff.1 hz
      rw [← he]; exact (List.getElem_cons_drop hl).symm
    have hbx := hbd x (List.mem_of_getElem? hx)
    generalize hr : (sp.zip sh).drop (g.length + 1) = r at hdr
    rw [hdr] at hp ⊢
    have hex : exts g ((x, s) :: r) = doneTo g (x, s) r (x.hi - x.lo + 1).toNat := exts_cons g (x, s) r
    rw [hex] at hp ⊢
    generalize hN : (x.hi - x.lo + 1).toNat = N at hp ⊢
    obtain ⟨A', c', hv0, hlc, hcm, _⟩ := id hs
    injection hv0 with e1 e2 e3
    subst e1 e3
    generalize hgl : g.length = n at *
    have HS := Lib.hid hs; have HM := Lib.hid hM; have HJ := Lib.hid hJ; have HP := Lib.hid hp; have IH := Lib.hid ih; have HA := Lib.hid hA
    have HR := Lib.hid hr; have HGL := Lib.hid hgl
    have HC := Lib.hid (hM.s n x hx)
    have HH := Lib.hid (hM.h n s hs')
    have HJ0 := Lib.hid hJ0
    have eg : ∀ args w, (callFunc fid args).run Tryz.prog w = .ok (.enter fid args) w := by rw [hfid]; exact enters_of Tryz.func157 (by kernel_rfl) rfl
    have HFI := Lib.hid hfid
    clear hs hM hJ hp ih hA hr hgl hz hdr hex hJ0 hY hbd hfid
    have m0 := HM.out.p
    obtain ⟨c0, c1⟩ := HC.out
    have hatz : (n : Int) < (sp.length : Int) := by omega
    have hne : ¬ ((n : Int) = (sp.length : Int)) := by omega
    have hn5 : (n : Int) < 5 := by omega
    have hnz : (0 : Int) ≤ (n : Int) := by omega
    go_enter Tryz.func157, Tryz.ntmps157
    go_wp2
    go_loopg [8] N (fun gg s8 wr => ∃ q : Nat, q ≤ N ∧ N - q ≤ gg ∧ s8 = .int .i64 (x.lo + (q : Int)) ∧ Aside (J (pre ++ doneTo g (x, s) r q) wr) ∧ Aside (Keep n₀ X W₀ wr))
    case atStart => exact ⟨0, by omega, by omega, by simp, by show J _ _; simpa [doneTo, gTo] using HJ.out, Keep.refl _⟩
    case round =>
      obtain ⟨q, hq, hgg, rfl, HJQ, HK⟩ := hrel
      have HMQ := Lib.hid (HM.out.keep HK.out x1 x2 x3 x4 x5)
      clear m0 c0 c1
      have m0 := HMQ.out.p
      have m5 := HMQ.out.f
      obtain ⟨c0, c1⟩ := HMQ.out.s n x hx
      have m3 := HMQ.out.h n s hs'
      by_cases hqN : q < N
      · have hle : x.lo + (q : Int) ≤ x.hi := by omega
        by_cases hs0 : s = 0
        · subst hs0
          go_wp2
          refine wp_region_tame_cut2 (fun W => Ext wr W) (fun W W' => Ext W W') (by kernel_rfl) 56 rfl _ _ rfl rfl (by decide +kernel) (by decide +kernel) (by decide +kernel) (by decide +kernel) (by decide +kernel) rfl rfl (Ext.refl _).drew ?_
          simp only [List.dropLast]
          have k5 := fun W (h : Ext wr W) => (h.cells.1 bl 0 (is_cells m5).1).trans m5
          repeat (apply tame_q rfl; (intro ρ W hC hr hD; (obtain ⟨hrc, hrg, hrf, hrs⟩ := hr); (simp [go_sem] at hD); go_simp; first | exact ⟨⟨hC, Ext.refl _⟩, rfl⟩ | exact ⟨⟨hC, RS.refl _⟩, rfl⟩ | exact rfl); simp only [List.nil_append, List.cons_append])
          apply tame_v rfl (OneAt (x.lo + (q : Int))) (fun v W W' _ hE h => h.ext hE)
          · intro ρ W hC hr hD
            obtain ⟨hrc, hrg, hrf, hrs⟩ := hr
            simp [go_sem] at hD
            go_simp
            exact ⟨⟨hC.alloc _, Ext.al _ _⟩, ⟨_, rfl, by simp [go_sem], by simp⟩⟩
          simp only [List.nil_append, List.cons_append]
          apply tame_v rfl (AppAt x₀ (n + 1) (g ++ [x.lo + (q : Int)])) (fun v W W' _ hE h => h.ext hE)
          · intro ρ W hC hr hD
            obtain ⟨hrc, hrg, hrf, hrs⟩ := hr
            simp [go_sem] at hD
            obtain ⟨q4, b', q1, q2, q3⟩ := hD
            obtain ⟨g', cap, W', hgW, hrun, hsl, hext⟩ := run_app1 (A := A) (n := n) (l := g) (c := 1) (t := 36) (ty := 36) Tryz.underlying36 (Sl.cap (c := c) ((HS.out.keep HK.out HA.out).ext hC) (Nat.le_refl _) (by omega)) (by omega) q2
            show opGives _ _ _ _ _ _ _
            unfold opGives execOp
            simp only [resolve, invoke, builtin, Sem.run_bind, Sem.run_pure, Result.andThen_ok, List.map_toArray, List.map_cons, List.map_nil, q1, q4, hrun]
            exact ⟨⟨hC.trans hext, hext⟩, ⟨g', cap, rfl, by have := hC.size; have := HK.out.b.size; omega, hsl⟩⟩
          simp only [List.nil_append, List.cons_append]
          refine tame_end 56 rfl rfl (fun ρ W hC hr hF => ?_)
          obtain ⟨hrc, hrg, hrf, hrs⟩ := hr
          simp [go_sem] at hF
          obtain ⟨f46, f47, f48, f49, f50, f51, ⟨b', f52, -, -⟩, ⟨g', cap, f53, hg', hsl⟩⟩ := hF
          rw [f53] at hsl
          apply frame_to
          · go_simp
            exact rfl
          clear f46 f47 f48 f49 f50 f51 f52 f53 hrs hrc hrg hrf k5
          have e1 : (g ++ [x.lo + (q : Int)]).length = n + 1 := by simp [HGL.out]
          have hsz := hC.size
          have hsk := HK.out.b.size
          have H := IH.out (g ++ [x.lo + (q : Int)]) (some ⟨g', 0, none⟩) cap (pre ++ doneTo g (x, 0) r q) W (by rw [e1]; omega) (by rw [e1]; exact hsl) (fun b o e => by
            injection e with e; injection e with e _; subst e; intro hxb; have := hX _ hxb; omega) (HMQ.out.keep (n₀ := n₀) (Keep.ext hC (by omega)) x1 x2 x3 x4 x5) (HJ0.out _ _ _ HJQ.out hC) (by omega) (by omega) (by
            rw [e1, HR.out, List.append_assoc]
            have hd1 : doneTo g (x, 0) r (q + 1) = doneTo g (x, 0) r q ++ exts (g ++ [x.lo + (q : Int)]) r := by rw [doneTo_succ]; simp []
            rw [← hd1]
            exact (List.prefix_append_right_inj _ |>.2 (doneTo_pre g (x, 0) r (show q + 1 ≤ N by omega))).trans HP.out)
          rw [e1, HR.out, ← HFI.out] at H
          have HD1 := Lib.hid (show doneTo g (x, 0) r (q + 1) = doneTo g (x, 0) r q ++ exts (g ++ [x.lo + (q : Int)]) r by rw [doneTo_succ]; simp [])
          have HKW := Lib.hid (HK.out.trans (Keep.ext (X := X) hC (by omega)))
          clear e1 hsl hC
          go_wp2_with (go_at_fn fid; refine H.mono ?_; clear H; rintro e w' (⟨rfl, g1, g2⟩ | ⟨rfl, q', g1, g2⟩))
          · go_wp2
            go_roundg (N - (q + 1))
            case measure => omega
            case rel => exact ⟨q + 1, by omega, by omega, by simp; omega, by show J _ _; rw [HD1.out, ← List.append_assoc]; exact g1, HKW.out.trans g2⟩
          · go_wp2
            go_ret
            exact .inr ⟨rfl, doneTo g (x, 0) r q ++ q', ((List.prefix_append_right_inj _).2 g1).trans (by rw [← HD1.out]; exact doneTo_pre g (x, 0) r (by omega)), by rw [← List.append_assoc]; exact g2⟩
        · have HS0 := Lib.hid hs0
          by_cases hsq : s = x.lo + (q : Int)
          · subst hsq
            go_wp2
            refine wp_region_tame_cut2 (fun W => Ext wr W) (fun W W' => Ext W W') (by kernel_rfl) 56 rfl _ _ rfl rfl (by decide +kernel) (by decide +kernel) (by decide +kernel) (by decide +kernel) (by decide +kernel) rfl rfl (Ext.refl _).drew ?_
            simp only [List.dropLast]
            have k5 := fun W (h : Ext wr W) => (h.cells.1 bl 0 (is_cells m5).1).trans m5
            repeat (apply tame_q rfl; (intro ρ W hC hr hD; (obtain ⟨hrc, hrg, hrf, hrs⟩ := hr); (simp [go_sem] at hD); go_simp; first | exact ⟨⟨hC, Ext.refl _⟩, rfl⟩ | exact ⟨⟨hC, RS.refl _⟩, rfl⟩ | exact rfl); simp only [List.nil_append, List.cons_append])
            apply tame_v rfl (OneAt (x.lo + (q : Int))) (fun v W W' _ hE h => h.ext hE)
            · intro ρ W hC hr hD
              obtain ⟨hrc, hrg, hrf, hrs⟩ := hr
              simp [go_sem] at hD
              go_simp
              exact ⟨⟨hC.alloc _, Ext.al _ _⟩, ⟨_, rfl, by simp [go_sem], by simp⟩⟩
            simp only [List.nil_append, List.cons_append]
            apply tame_v rfl (AppAt x₀ (n + 1) (g ++ [x.lo + (q : Int)])) (fun v W W' _ hE h => h.ext hE)
            · intro ρ W hC hr hD
              obtain ⟨hrc, hrg, hrf, hrs⟩ := hr
              simp [go_sem] at hD
              obtain ⟨q4, b', q1, q2, q3⟩ := hD
              obtain ⟨g', cap, W', hgW, hrun, hsl, hext⟩ := run_app1 (A := A) (n := n) (l := g) (c := 1) (t := 36) (ty := 36) Tryz.underlying36 (Sl.cap (c := c) ((HS.out.keep HK.out HA.out).ext hC) (Nat.le_refl _) (by omega)) (by omega) q2
              show opGives _ _ _ _ _ _ _
              unfold opGives execOp
              simp only [resolve, invoke, builtin, Sem.run_bind, Sem.run_pure, Result.andThen_ok, List.map_toArray, List.map_cons, List.map_nil, q1, q4, hrun]
              exact ⟨⟨hC.trans hext, hext⟩, ⟨g', cap, rfl, by have := hC.size; have := HK.out.b.size; omega, hsl⟩⟩
            simp only [List.nil_append, List.cons_append]
            refine tame_end 56 rfl rfl (fun ρ W hC hr hF => ?_)
            obtain ⟨hrc, hrg, hrf, hrs⟩ := hr
            simp [go_sem] at hF
            obtain ⟨f46, f47, f48, f49, f50, f51, ⟨b', f52, -, -⟩, ⟨g', cap, f53, hg', hsl⟩⟩ := hF
            rw [f53] at hsl
            apply frame_to
            · go_simp
              exact rfl
            clear f46 f47 f48 f49 f50 f51 f52 f53 hrs hrc hrg hrf k5
            have e1 : (g ++ [x.lo + (q : Int)]).length = n + 1 := by simp [HGL.out]
            have hsz := hC.size
            have hsk := HK.out.b.size
            have H := IH.out (g ++ [x.lo + (q : Int)]) (some ⟨g', 0, none⟩) cap (pre ++ doneTo g (x, x.lo + (q : Int)) r q) W (by rw [e1]; omega) (by rw [e1]; exact hsl) (fun b o e => by
              injection e with e; injection e with e _; subst e; intro hxb; have := hX _ hxb; omega) (HMQ.out.keep (n₀ := n₀) (Keep.ext hC (by omega)) x1 x2 x3 x4 x5) (HJ0.out _ _ _ HJQ.out hC) (by omega) (by omega) (by
              rw [e1, HR.out, List.append_assoc]
              have hd1 : doneTo g (x, x.lo + (q : Int)) r (q + 1) = doneTo g (x, x.lo + (q : Int)) r q ++ exts (g ++ [x.lo + (q : Int)]) r := by rw [doneTo_succ]; simp []
              rw [← hd1]
              exact (List.prefix_append_right_inj _ |>.2 (doneTo_pre g (x, x.lo + (q : Int)) r (show q + 1 ≤ N by omega))).trans HP.out)
            rw [e1, HR.out, ← HFI.out] at H
            have HD1 := Lib.hid (show doneTo g (x, x.lo + (q : Int)) r (q + 1) = doneTo g (x, x.lo + (q : Int)) r q ++ exts (g ++ [x.lo + (q : Int)]) r by rw [doneTo_succ]; simp [])
            have HKW := Lib.hid (HK.out.trans (Keep.ext (X := X) hC (by omega)))
            clear e1 hsl hC
            go_wp2_with (go_at_fn fid; refine H.mono ?_; clear H; rintro e w' (⟨rfl, g1, g2⟩ | ⟨rfl, q', g1, g2⟩))
            · go_wp2
              go_roundg (N - (q + 1))
              case measure => omega
              case rel => exact ⟨q + 1, by omega, by omega, by simp; omega, by show J _ _; rw [HD1.out, ← List.append_assoc]; exact g1, HKW.out.trans g2⟩
            · go_wp2
              go_ret
              exact .inr ⟨rfl, doneTo g (x, x.lo + (q : Int)) r q ++ q', ((List.prefix_append_right_inj _).2 g1).trans (by rw [← HD1.out]; exact doneTo_pre g (x, x.lo + (q : Int)) r (by omega)), by rw [← List.append_assoc]; exact g2⟩
          · have HSQ := Lib.hid hsq
            have HD1 := Lib.hid (show doneTo g (x, s) r (q + 1) = doneTo g (x, s) r q by rw [doneTo_succ]; simp [hs0, hsq])
            have hb0 : (s != 0) = true := by simpa using hs0
            have hb1 : (s != x.lo + (q : Int)) = true := by simpa using hsq
            go_wp2
            go_roundg (N - (q + 1))
            case measure => omega
            case rel => exact ⟨q + 1, by omega, by omega, by simp; omega, by show J _ _; rw [HD1.out]; exact HJQ.out, HK.out⟩
      · have hqe : q = N := by omega
        subst hqe
        have hgt : x.hi < x.lo + (q : Int) := by omega
        go_wp2
        go_ret
        exact .inl ⟨rfl, HJQ.out, HK.out⟩
end Go.Proofs.YtkpengeaolcjhaaGreatDoor
/- core's truths, as a function that is ranged over. -/
namespace Go.Proofs.YtkpengeaolcjhaaGreatDoor
open Go.RowKit Go.Shelf Go.Lib
set_option maxRecDepth 100000
set_option linter.unusedSimpArgs false

/-- What is read of a press and of what was shown. -/
structure PM (bp bb off bs cs : Nat) (sp : List Span) (sh : List Int) (W : World) : Prop where
  p : W.cell? ⟨bp, 6, none⟩ = some (.slice (some ⟨bb, off, none⟩) sp.length cs)
  s : ∀ i x, sp[i]? = some x → W.cell? ⟨bb, off + i * 2, none⟩ = some (.int .i64 x.lo) ∧ W.cell? ⟨bb, off + i * 2 + 1, none⟩ = some (.int .i64 x.hi)
  h : ∀ i n, sh[i]? = some n → W.cell? ⟨bs, i, none⟩ = some (.int .i64 n)
theorem PM.ext {bp bb off bs cs : Nat} {sp : List Span} {sh : List Int} {A B : World} (h : PM bp bb off bs cs sp sh A) (e : Ext A B) : PM bp bb off bs cs sp sh B :=
  have k : ∀ {b i : Nat} {v : Value}, A.cell? ⟨b, i, none⟩ = some v → B.cell? ⟨b, i, none⟩ = some v := fun hc => (e.cells.1 _ _ (is_cells hc).1).trans hc
  ⟨k h.p, fun i x hx => ⟨k (h.s i x hx).1, k (h.s i x hx).2⟩, fun i n hn => k (h.h i n hn)⟩

set_option maxHeartbeats 1000000 in
theorem truths_seqs {bp bb off bs cs n₀ : Nat} {X : Nat → Prop} {sp : List Span} {sh : List Int} {w : World} (hsp : sp.length ≤ 5) (hsh : sh.length = 5) (hbd : ∀ x ∈ sp, 0 ≤ x.lo ∧ x.lo ≤ 1000 ∧ x.hi ≤ 1000)
    (hX : ∀ b, X b → b < w.heap.size) (x1 : ¬ X bp) (x2 : ¬ X bb) (x3 : ¬ X bs) (hn : n₀ ≤ w.heap.size) (hM : PM bp bb off bs cs sp sh w) :
    Seqs Tryz.prog 156 #[.pointer (some ⟨bp, 0, none⟩), .pointer (some ⟨bs, 0, none⟩)] n₀ X (fun x v W => SlI W v x) (truthsL (sp.zip sh)) w := by
  intro l J Jx W hE hJ hJx hY h0
  have hM1 := hM.ext hE
  have hsz := hE.size
  have hE4 : Ext W ((W.alloc (.cells #[.func (.yield l) #[] #[]] 180)).alloc (.cells #[.func (.func 157) #[] #[.pointer (some ⟨bp, 0, none⟩), .pointer (some ⟨W.heap.size, 0, none⟩), .pointer (some ⟨bs, 0, none⟩), .pointer (some ⟨W.heap.size + 1, 0, none⟩)]] 180)) :=
    (Ext.al _ _).alloc _
  generalize hW4 : ((W.alloc (.cells #[.func (.yield l) #[] #[]] 180)).alloc (.cells #[.func (.func 157) #[] #[.pointer (some ⟨bp, 0, none⟩), .pointer (some ⟨W.heap.size, 0, none⟩), .pointer (some ⟨bs, 0, none⟩), .pointer (some ⟨W.heap.size + 1, 0, none⟩)]] 180)) = W4 at hE4
  have hM4 := hM1.ext hE4
  have hTM : TM 157 l bp bb off bs W.heap.size (W.heap.size + 1) cs sp sh W4 := ⟨hM4.p, hM4.s, hM4.h, by rw [← hW4]; simp [go_sem], by rw [← hW4]; simp [go_sem]⟩
  have hs4 := hE4.size
  have he : exts [] ((sp.zip sh).drop 0) = truthsL (sp.zip sh) := by simp [exts]
  have H := lay_any (J := J) (Jx := Jx) (n₀ := n₀) (x₀ := w.heap.size) (X := X) (all := truthsL (sp.zip sh)) rfl hsp hsh hbd hX x1 x2 x3 (fun h => by have := hX _ h; omega) (fun h => by have := hX _ h; omega) hJ hY sp.length [] none 0 [] W4 (by simp) (Sl.nil W4) (fun b o e => by cases e) hTM (hJ _ _ _ h0 hE4) (by omega) (by omega) (by rw [show ([] : List Int).length = 0 from rfl, he]; exact List.prefix_refl _)
  rw [show ([] : List Int).length = 0 from rfl, he, List.nil_append] at H
  rw [← hW4] at H
  clear hW4 hTM hM4 hs4 hE4 hM1 hM hY
  go_enter Tryz.func156, Tryz.ntmps156
  go_wp2_with fail
  refine H.mono ?_
  rintro e w' (⟨rfl, g1, g2⟩ | ⟨rfl, q', g1, g2⟩)
  all_goals go_wp2
  · go_end0
    exact ⟨⟨_, rfl⟩, .inl g1⟩
  · go_end0
    exact ⟨⟨_, rfl⟩, .inr ⟨q', g1, g2⟩⟩

theorem truths_any (b : Bale) (dv wv sv lv : Value) (s0 s1 s2 s3 s4 : Int) (w : World) :
    Calls Tryz.prog 137 #[valP b dv wv sv lv, .agg #[.int .i64 s0, .int .i64 s1, .int .i64 s2, .int .i64 s3, .int .i64 s4]] w fun e w' =>
      e = .returned (.func (.func 156) #[] #[.pointer (some ⟨w.heap.size, 0, none⟩), .pointer (some ⟨w.heap.size + 1, 0, none⟩)]) ∧
      w' = (w.alloc (.cells #[.int .i64 b.id, .int .i64 b.layers, .int .i64 b.dry.lo, .int .i64 b.dry.hi, dv, wv, sv, lv] 166)).alloc (.cells #[.int .i64 s0, .int .i64 s1, .int .i64 s2, .int .i64 s3, .int .i64 s4] 172) := by
  dsimp only [valP]
  go_enter Tryz.func137, Tryz.ntmps137
  go_wp2
  go_ret
  exact ⟨rfl, rfl⟩
end Go.Proofs.YtkpengeaolcjhaaGreatDoor
