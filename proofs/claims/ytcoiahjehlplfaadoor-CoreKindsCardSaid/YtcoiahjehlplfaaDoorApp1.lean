/- append of one number onto a slice without room: new memory. -/
import Derived.Test.YtcoiahjehlplfaaDoorCopy
import Derived.Test.YtcoiahjehlplfaaDoorCoreF
namespace Go.Proofs.YtcoiahjehlplfaaDoor
open Go.RowKit Go.Shelf Go.Lib
set_option maxRecDepth 100000

theorem run_app1 {t ty : TypeId} (ht : Tryd.prog.underlying t = some (.slice 3)) {W : World} {A : Option Addr} {n : Nat} {l : List Int} {b c : Nat} {y : Int} (hl : SlI W (.slice A n n) l) (hn : n ≤ 1000) (hy : W.cell? ⟨b, 0, none⟩ = some (.int .i64 y)) :
    ∃ g cap W', W.heap.size ≤ g ∧ (Builtin.append_ #[t, t] ty #[.slice A n n, .slice (some ⟨b, 0, none⟩) 1 c]).run Tryd.prog W = .ok (.slice (some ⟨g, 0, none⟩) (n + 1) cap) W' ∧ SlI W' (.slice (some ⟨g, 0, none⟩) (n + 1) cap) (l ++ [y]) ∧ Ext W W' := by
  obtain ⟨i0, hi, hz0, hz1, hz2⟩ := info_parts info3x
  obtain ⟨A', c', hv, hlc, hcm, hcell⟩ := id hl
  injection hv with e1 e2 e3
  subst e1 e3
  have hnl : n = l.length := e2
  have hnews : ∀ j v, ([Value.int .i64 y] : List Value)[j]? = some v → W.cell? ((⟨b, 0, none⟩ : Addr).add j) = some v := by
    intro j v hj
    cases j with
    | zero => simp at hj; subst hj; simpa [Addr.add] using hy
    | succ j => simp at hj
  have hI : ∀ L : List Int, (L.flatMap encI).length = L.length * 1 := enc_len (enc := encI) (fun _ => rfl)
  have hlen1 : (l.flatMap encI).length = n * i0.size := by rw [hz1, hI, hnl]
  have key : ∀ (W' : World) (cap : Nat) (rest : List Value), W' = W.drew.alloc (.cells (((l ++ [y]).flatMap encI).toArray ++ Builtin.zeroCells (Value.int .i64 0).cells (cap - (n + 1))) 3) → n + 1 ≤ cap → cap ≤ maxLen →
      SlI W' (.slice (some ⟨W.heap.size, 0, none⟩) (n + 1) cap) (l ++ [y]) ∧ Ext W W' := by
    rintro W' cap _ rfl h1 h2
    refine ⟨?_, (Ext.refl W).drew.alloc _⟩
    refine Own.sl (e := 3) (base := W.heap.size) (fun _ => rfl) ⟨by rw [hI], .inr ⟨W.heap.size, cap, _, by simp [hnl], Nat.le_refl _, heap_alloc_new W.drew _, by simp; omega, h2, ?_, ?_⟩⟩
    · have : ((l ++ [y]).flatMap encI).length = n + 1 := by rw [hI]; simp [hnl]
      simp only [Array.size_append, List.size_toArray, size_zeroCells, this]
      simp [Value.cells]
      omega
    · simp only [Array.toList_append]
      have : ((l ++ [y]).flatMap encI).length = (l ++ [y]).length * 1 := hI _
      rw [← this]
      exact List.take_left
  cases A with
  | none =>
    have h0 : n = 0 := by
      by_cases h : 0 < l.length
      · obtain ⟨_, _, h, _⟩ := hcell h; cases h
      · omega
    subst h0
    have hnil : l = [] := List.eq_nil_of_length_eq_zero hnl.symm
    subst hnil
    have hr := run_append_nil (P := Tryd.prog) (w := W) t ty 3 i0 (.int .i64 0) ht hi hz0 ⟨b, 0, none⟩ 1 c [.int .i64 y] (by rw [hz1]; rfl) hnews (by omega) (by omega) (by rw [hz2]; omega)
    obtain ⟨k1, k2⟩ := key _ (grownCap W 1 0 3) [] rfl (by have := grownCap_ge W 1 0 3; omega) (grownCap_le_maxLen W 1 0 3 (by unfold maxLen; omega))
    exact ⟨_, _, _, Nat.le_refl _, hr, k1, k2⟩
  | some a =>
    have hold : ∀ j v, (l.flatMap encI)[j]? = some v → W.cell? (a.add j) = some v := by
      intro j v hj
      have hjl : j < l.length := by have := (List.getElem?_eq_some_iff.1 hj).1; rw [hI] at this; omega
      obtain ⟨b', off', hA, hb, _⟩ := hcell (by omega)
      injection hA with hA
      subst hA
      exact Sl.flat (enc := encI) (sz := 1) (fun _ => rfl) (by decide) hl j v hj
    have hr := run_append_grow (P := Tryd.prog) (w := W) t ty 3 i0 (.int .i64 0) ht hi hz0 a n n (l.flatMap encI) hlen1 hold ⟨b, 0, none⟩ 1 c [.int .i64 y] (by rw [hz1]; rfl) hnews (by omega) (by omega) (growslice_fits (by omega) (by rw [hz2]; omega))
    obtain ⟨k1, k2⟩ := key _ (grownCap W (n + 1) n 3) [] rfl (by have := grownCap_ge W (n + 1) n 3; omega) (grownCap_le_maxLen W (n + 1) n 3 (by unfold maxLen; omega))
    refine ⟨_, _, _, Nat.le_refl _, hr, ?_, ?_⟩
    · simpa [List.flatMap_append] using k1
    · simpa [List.flatMap_append] using k2
end Go.Proofs.YtcoiahjehlplfaaDoor
