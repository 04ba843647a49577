/- A store of a struct over a whole block, as one step. -/
import Derived.Test.YtafdbgielmlihaaDoorPkChLeastCardC
import Derived.Laws.CopyRow
import Derived.Test.YtafdbgielmlihaaDoorPkChLeastCardE
import Derived.Test.YtafdbgielmlihaaDoorPkChLeastCardD
namespace Go.Proofs.YtafdbgielmlihaaDoor
open Go.RowKit Go.Shelf Go.Lib
set_option maxRecDepth 100000
set_option linter.unusedSimpArgs false

theorem wpList_storeB {P : Program} {ops : Array Oper} {rest : List Oper} {o : Oper} {a : Act} {Q : Exit → Act → World → Prop} {w : World} (hgd : o.guard = none) (hd : o.dst = none) (t : TypeId) (p x : Operand) (ho : o.op = .store t p x)
    {n : Nat} (hinfo : (P.info? t).map (·.size) = some n) {g : Nat} {s : TypeId} {cs ys : Array Value} (hp : a.eval p = .pointer (some ⟨g, 0, none⟩)) (hx : a.eval x = .agg ys) (hB : Blk w g s cs) (hsz : ys.size = n) (hcs : cs.size = n) (h1 : ∀ v ∈ ys.toList, v.oneCell' = true)
    (h : ∀ w', Blk w' g s ys → w.grownBy w' (some g) → wpList P ops Q rest a w') : wpList P ops Q (o :: rest) a w := by
  have hst := run_storeCells_at (P := P) g 0 s ys.toList 0 cs w hB (by simp; omega) h1
  have e : (cs.toList.take (0 + 0) ++ ys.toList ++ cs.toList.drop (0 + 0 + ys.toList.length)).toArray = ys := by
    simp [hsz, ← hcs]
    rw [List.drop_of_length_le (by simp)]
    simp
  rw [e] at hst
  have hg2 : w.grownBy (w.setRow g ys) (some g) := ⟨rfl, rfl, rfl, by simp [World.setRow], fun i _ hi => setRow_other w g i _ (fun e => hi (by rw [e]))⟩
  have hB2 : Blk (w.setRow g ys) g s ys := setRow_heap w g cs ys s _ hB
  refine wpList_plain hgd fun K hK => ?_
  have hr : (Instr.storeAt t (.pointer (some ⟨g, 0, none⟩)) (.agg ys)).run P w = .ok () (w.setRow g ys) := by
    cases hq : P.info? t with
    | none => simp [hq] at hinfo
    | some i =>
      have hi : i.size = n := by simpa [hq] using hinfo
      simp [Instr.storeAt, storeVar, Instr.sureAddr, sizeOf, typeInfo, hq, hi, hsz, Value.cells, hst]
  unfold Oper.wp execOp
  simp only [ho, Sem.run_bind, Sem.run_pure, Result.andThen_ok, hp, hx, hr]
  have hk := hK a _ (h _ hB2 hg2)
  simp [Oper.upon, hd]
  exact hk
end Go.Proofs.YtafdbgielmlihaaDoor
/- The end of a drawn region with a word: the frame that came in, the region's own slots put in. -/
namespace Go.Proofs.YtafdbgielmlihaaDoor
open Go.RowKit Go.Shelf
section
variable {P : Program} {C : World → Prop} {R : World → World → Prop} {a0 : Act} {ds : List (Option Tmp)} {Q : Act → World → Prop} {n : Nat} {F : Facts}
theorem tameD_end_put {I : (Nat → Bool) → (Nat → Value) → World → Prop} (hds : F.map (·.1) = ds) (hn : n = F.length) (h : ∀ ρ W, C W → Rd a0 ds ρ → I (fun j => decide (j < n)) (fun t => ρ (.tmp t)) W → allF F ρ W → Q { tmps := (putF ρ F a0.tmps.toList).toArray, defers := a0.defers } W) : wpTameD P C R I ds a0 Q n [] F := by
  intro A W hC hS hI hF
  have hI2 : I (fun j => decide (j < n)) (fun t => A.eval (.tmp t)) W := hI
  have hA : A = { tmps := (putF A.eval F a0.tmps.toList).toArray, defers := a0.defers } := by
    obtain ⟨h1, h2, h3⟩ := hS
    obtain ⟨tmps, defers⟩ := A
    simp only at h1 h2
    subst h1
    congr 1
    apply Array.ext_getElem?
    intro j
    by_cases hj : j < tmps.size
    · have e : (Act.mk tmps a0.defers).eval (.tmp j) = tmps[j] := by simp [Act.eval, hj]
      have hp : (putF (Act.mk tmps a0.defers).eval F a0.tmps.toList).toArray[j]? = some tmps[j] := by
        rw [List.getElem?_toArray, putF_in _ F _ j (by simpa using h2 ▸ hj), e]
        by_cases hm : some j ∈ F.map (·.1)
        · exact .inl hm
        · right
          have hni : notIn ds j = true := by
            unfold notIn
            rw [List.all_eq_true]
            intro d hd
            rw [← hds] at hd
            simp only [bne_iff_ne, ne_eq]
            intro e2
            exact hm (e2 ▸ hd)
          rw [h3 j hni]
          have hj2 : j < a0.tmps.size := h2 ▸ hj
          simp [Act.eval, hj2]
      rw [hp]; simp [hj]
    · rw [Array.getElem?_eq_none (by omega), List.getElem?_toArray, List.getElem?_eq_none (by rw [putF_len]; simp; omega)]
  have hR := Rd.of hS
  have hF2 := allF_of _ _ _ (hn ▸ hF)
  have hk := h A.eval W hC hR hI2 hF2
  rw [← hA] at hk
  exact hk
end
end Go.Proofs.YtafdbgielmlihaaDoor
