/- middlinglaw03.CoreExamples: the walk's middle part. -/
import Derived.Test.YtdlipbobfgdleaaDoorPkExamplesCardA
import Derived.Test.YtdlipbobfgdleaaDoorPkKindOCardD
import Derived.Test.YtdlipbobfgdleaaDoorPkWeightCardB
import Derived.Maps.AppendAt
namespace Go.Proofs.YtdlipbobfgdleaaDoor
open Go.RowKit Go.Shelf Go.Lib
set_option maxRecDepth 100000
set_option linter.unusedSimpArgs false

theorem Own.same {α : Type} {enc : α → List Value} {e : TypeId} {sz base : Nat} {W W' : World} {v : Value} {l : List α} (h : Own enc e sz W base v l) (hs : ∀ g, v.ownBlock = some g → W'.heap[g]? = W.heap[g]?) : Own enc e sz W' base v l := by
  refine ⟨h.1, ?_⟩
  rcases h.2 with h2 | ⟨g, cap, cur, e1, hb, hg, h5⟩
  · exact .inl h2
  · exact .inr ⟨g, cap, cur, e1, hb, (hs g (by rw [e1]; rfl)).trans hg, h5⟩
theorem Own.rng {α : Type} {enc : α → List Value} {e : TypeId} {sz base : Nat} {W : World} {v : Value} {l : List α} (h : Own enc e sz W base v l) {g : Nat} (hg : v.ownBlock = some g) : base ≤ g ∧ g < W.heap.size := World.ownsRow.lt h g hg
/-- append of one element, and where the new row lies. -/
theorem run_appH {α : Type} {enc : α → List Value} {t ty e : TypeId} {sz : Nat} {z : Value} {bytes : Nat} (ht : Tryd.prog.underlying t = some (.slice e))
    (hinfo : (Tryd.prog.info? e).map (fun i => (i.zero, i.size, i.bytes)) = some (some z, sz, bytes)) (hzs : z.cells.size = sz) (hsz : 0 < sz) (hbytes : bytes ≤ 1000) (henc : ∀ x, (enc x).length = sz) (h1c : ∀ x, ∀ u ∈ enc x, u.oneCell' = true)
    {W : World} {v x : Value} {l : List α} {y : α} (hv : NewF enc sz e 0 l v W) (hF : l.length < 1000) (hx : OneF enc e y x W) :
    ∃ v' W', (Builtin.append_ #[t, t] ty #[v, x]).run Tryd.prog W = .ok v' W' ∧ NewF enc sz e 0 (l ++ [y]) v' W' ∧ RF enc sz e 0 (l ++ [y]) y W W' ∧ OffT e W W' ∧ W.grownBy W' v.ownBlock ∧ (v'.ownBlock = v.ownBlock ∨ v'.ownBlock = some W.heap.size) := by
  obtain ⟨v', W', hr, k1, k2, k3, k4⟩ := run_appG (ty := ty) ht hinfo hzs hsz hbytes henc h1c hv hF (Nat.zero_le _) hx
  refine ⟨v', W', hr, k1, k2, k4, ?_⟩
  obtain ⟨b, rfl, hB⟩ := hx
  have hs : Sl enc sz W (.slice (some ⟨b, 0, none⟩) 1 1) [y] := Sl.single hB (Nat.le_refl _) (by decide)
  obtain ⟨i0, hi, hz0, hz1, hz2⟩ := info_parts hinfo
  have hby : (l.length + 1) * bytes ≤ 1000 * 1000 := Nat.mul_le_mul (by omega) hbytes
  obtain ⟨v2, W2, hr2, -, h2, -, h3⟩ := run_append_own_at (P := Tryd.prog) (w := W) 0 t ty e i0 z sz bytes ht hi hz0 hz1 hz2 hzs hsz v l.length (l.flatMap enc) hv.1 ⟨b, 0, none⟩ 1 1 ([y].flatMap enc) (by simp [henc]) (Sl.flat henc hsz hs) (fun u hu => by
    obtain ⟨q, _, hq⟩ := List.mem_flatMap.1 hu
    exact h1c q u hq) (by unfold maxLen; omega) (by omega) (Nat.zero_le _)
  rw [hr] at hr2
  injection hr2 with e1 e2
  subst e1 e2
  exact ⟨h2, h3⟩
/-- The full bale in its box; its lists lie in blocks from y0 to zz, or are new. -/
structure FB (w0 : World) (y0 zz p : Nat) (L : List Draw) (M : List Weigh) (dv wv : Value) (V : World) : Prop where
  os : V.os = w0.os
  tape : V.tape = w0.tape
  output : V.output = w0.output
  size : w0.heap.size ≤ V.heap.size
  st : ∀ b, b < w0.heap.size → (b < y0 ∨ zz ≤ b) → b ≠ p → V.heap[b]? = w0.heap[b]?
  blk : Blk V p 27 #[.int .i64 1, .int .i64 4, .int .i64 400, .int .i64 500, dv, wv]
  d : NewF encD 4 63 0 L dv V
  w : NewF encW 4 65 0 M wv V
  dO : ∀ g, dv.ownBlock = some g → (y0 ≤ g ∧ g < zz) ∨ w0.heap.size ≤ g
  wO : ∀ g, wv.ownBlock = some g → (y0 ≤ g ∧ g < zz) ∨ w0.heap.size ≤ g
section
variable {w0 : World} {y0 zz p : Nat} {L : List Draw} {M : List Weigh} {dv wv : Value} {V V' : World}
theorem FB.ext (h : FB w0 y0 zz p L M dv wv V) (k : Ext V V') : FB w0 y0 zz p L M dv wv V' :=
  ⟨k.os.trans h.os, k.tape.trans h.tape, k.output.trans h.output, Nat.le_trans h.size k.size, fun b hb h1 h2 => (k.block b (Nat.lt_of_lt_of_le hb h.size)).trans (h.st b hb h1 h2), h.blk.ext k, ⟨h.d.1.ext k, h.d.2⟩, ⟨h.w.1.ext k, h.w.2⟩, h.dO, h.wO⟩
theorem FB.oldD {y : Draw} (h : FB w0 y0 zz p L M dv wv V) (hR : RF encD 4 63 0 (L ++ [y]) y V V') (hO : OffT 63 V V') (hG : V.grownBy V' dv.ownBlock) : FB w0 y0 zz p L M dv wv V' :=
  ⟨hG.os.trans h.os, hG.tape.trans h.tape, hG.output.trans h.output, Nat.le_trans h.size hG.size, fun b hb h1 h2 => (hG.block b (Nat.lt_of_lt_of_le hb h.size) (fun e => by have := h.dO b e.symm; omega)).trans (h.st b hb h1 h2),
    hO p 27 _ (by decide) h.blk, ⟨hR.2.1 L (List.prefix_append _ _) dv h.d.1, h.d.2⟩, ⟨h.w.1.offT hO (by decide), h.w.2⟩, h.dO, h.wO⟩
theorem FB.oldW {y : Weigh} (h : FB w0 y0 zz p L M dv wv V) (hR : RF encW 4 65 0 (M ++ [y]) y V V') (hO : OffT 65 V V') (hG : V.grownBy V' wv.ownBlock) : FB w0 y0 zz p L M dv wv V' :=
  ⟨hG.os.trans h.os, hG.tape.trans h.tape, hG.output.trans h.output, Nat.le_trans h.size hG.size, fun b hb h1 h2 => (hG.block b (Nat.lt_of_lt_of_le hb h.size) (fun e => by have := h.wO b e.symm; omega)).trans (h.st b hb h1 h2),
    hO p 27 _ (by decide) h.blk, ⟨h.d.1.offT hO (by decide), h.d.2⟩, ⟨hR.2.1 M (List.prefix_append _ _) wv h.w.1, h.w.2⟩, h.dO, h.wO⟩
/-- What an appended list is. -/
def AppD (w0 : World) (y0 zz : Nat) (L : List Draw) (v : Value) (V : World) : Prop := NewF encD 4 63 0 L v V ∧ ∀ g, v.ownBlock = some g → (y0 ≤ g ∧ g < zz) ∨ w0.heap.size ≤ g
def AppW (w0 : World) (y0 zz : Nat) (M : List Weigh) (v : Value) (V : World) : Prop := NewF encW 4 65 0 M v V ∧ ∀ g, v.ownBlock = some g → (y0 ≤ g ∧ g < zz) ∨ w0.heap.size ≤ g
theorem FB.putD {L' : List Draw} {v : Value} (h : FB w0 y0 zz p L M dv wv V) (hN : AppD w0 y0 zz L' v V) : FB w0 y0 zz p L' M v wv (V.setCell ⟨p, 4, none⟩ v) :=
  have hG : V.grownBy (V.setCell ⟨p, 4, none⟩ v) (some p) := grown_set (World.grownBy.refl _ _) (p := ⟨p, 4, none⟩) (.inl rfl) _
  ⟨h.os, h.tape, h.output, Nat.le_trans h.size hG.size, fun b hb h1 h2 => (hG.block b (Nat.lt_of_lt_of_le hb h.size) (fun e => h2 (by injection e))).trans (h.st b hb h1 h2), by have := h.blk.set_ 4 v; simpa using this,
    ⟨own_off hN.1.1 h.blk (by decide) hG, hN.1.2⟩, ⟨own_off h.w.1 h.blk (by decide) hG, h.w.2⟩, hN.2, h.wO⟩
theorem FB.putW {M' : List Weigh} {v : Value} (h : FB w0 y0 zz p L M dv wv V) (hN : AppW w0 y0 zz M' v V) : FB w0 y0 zz p L M' dv v (V.setCell ⟨p, 5, none⟩ v) :=
  have hG : V.grownBy (V.setCell ⟨p, 5, none⟩ v) (some p) := grown_set (World.grownBy.refl _ _) (p := ⟨p, 5, none⟩) (.inl rfl) _
  ⟨h.os, h.tape, h.output, Nat.le_trans h.size hG.size, fun b hb h1 h2 => (hG.block b (Nat.lt_of_lt_of_le hb h.size) (fun e => h2 (by injection e))).trans (h.st b hb h1 h2), by have := h.blk.set_ 5 v; simpa using this,
    ⟨own_off h.d.1 h.blk (by decide) hG, h.d.2⟩, ⟨own_off hN.1.1 h.blk (by decide) hG, hN.1.2⟩, h.dO, hN.2⟩
end
def fdTo (k : Nat) : List Draw := (exB []).draws ++ (List.range k).map fun (i : Nat) => ⟨13 + (i : Int), 2, ⟨1, 9⟩⟩
def fwTo (k : Nat) : List Weigh := (exB []).weighs ++ (List.range k).map fun (i : Nat) => ⟨12 + (i : Int), 450, ⟨0, 200⟩⟩
theorem fdTo_succ (k : Nat) : fdTo (k + 1) = fdTo k ++ [⟨13 + (k : Int), 2, ⟨1, 9⟩⟩] := by unfold fdTo; rw [List.range_succ, List.map_append, List.append_assoc]; rfl
theorem fwTo_succ (k : Nat) : fwTo (k + 1) = fwTo k ++ [⟨12 + (k : Int), 450, ⟨0, 200⟩⟩] := by unfold fwTo; rw [List.range_succ, List.map_append, List.append_assoc]; rfl
theorem fdTo_len (k : Nat) : (fdTo k).length = 3 + k := by unfold fdTo; rw [List.length_append, List.length_map, List.length_range]; rfl
theorem fwTo_len (k : Nat) : (fwTo k).length = 2 + k := by unfold fwTo; rw [List.length_append, List.length_map, List.length_range]; rfl
theorem own_newF {α : Type} {enc : α → List Value} {e : TypeId} {sz base : Nat} {W : World} {v : Value} {l : List α} (henc : ∀ x, (enc x).length = sz) (h : Own enc e sz W base v l) (h0 : 0 < l.length) : NewF enc sz e 0 l v W := by
  refine ⟨h.mono (Nat.zero_le _), ?_⟩
  obtain ⟨A, n, c, rfl, hn, -, -⟩ := (Own.sl henc h).form
  exact ⟨A, c, by rw [hn.out], fun h => by omega⟩
/-- A weighing's dampness is turned. -/
theorem Sl.putH {W : World} {g n c i : Nat} {l : List Weigh} {x : Weigh} {s : Span} (h : SlW W (.slice (some ⟨g, 0, none⟩) n c) l) (hi : i < n) (hx : l[i]? = some x) :
    SlW ((W.setCell ⟨g, i * 4 + 2, none⟩ (.int .i64 s.lo)).setCell ⟨g, i * 4 + 3, none⟩ (.int .i64 s.hi)) (.slice (some ⟨g, 0, none⟩) n c) (l.set i ⟨x.number, x.pounds, s⟩) := by
  obtain ⟨b, off, y, e1, hy, hb, hyc⟩ := h.at_ hi
  injection e1 with e1
  injection e1 with e1 e2
  subst e1 e2
  obtain rfl : x = y := by rw [hx] at hy; injection hy
  have c0 : W.cell? ⟨g, i * 4 + 2, none⟩ = some (.int .i64 x.damp.lo) := by have := hyc W (Ext.refl _) 2 _ rfl; simpa using this
  have c1 : W.cell? ⟨g, i * 4 + 3, none⟩ = some (.int .i64 x.damp.hi) := by have := hyc W (Ext.refl _) 3 _ rfl; simpa using this
  obtain ⟨a', c', hv, hl, hc, hcell⟩ := h
  injection hv with e1 e2 e3
  subst e1 e2 e3
  refine ⟨_, _, by rw [List.length_set], by rw [List.length_set]; exact hl, hc, fun h0 => ?_⟩
  rw [List.length_set] at h0
  obtain ⟨b', off', hA, hb', hcell⟩ := hcell h0
  injection hA with hA
  injection hA with e1 e2
  subst e1 e2
  refine ⟨_, _, rfl, by simpa [World.setCell] using hb', fun k z hk j u hu => ?_⟩
  rw [Nat.zero_add]
  have c1' : (W.setCell ⟨g, i * 4 + 2, none⟩ (.int .i64 s.lo)).cell? ⟨g, i * 4 + 3, none⟩ = some (.int .i64 x.damp.hi) := by rw [cell_set2 c0, if_neg (by omega)]; exact c1
  rw [cell_set2 c1', cell_set2 c0]
  have hj : j < 4 := (List.getElem?_eq_some_iff.1 hu).1
  rw [List.getElem?_set] at hk
  by_cases hik : i = k
  · subst hik
    simp only [if_true] at hk
    rw [if_pos (by omega)] at hk
    injection hk with hk
    subst hk
    have hh := fun j u hu => hcell i x hx j u hu
    simp only [Nat.zero_add] at hh
    obtain rfl | rfl | rfl | rfl : j = 0 ∨ j = 1 ∨ j = 2 ∨ j = 3 := by omega
    · rw [if_neg (by omega), if_neg (by omega)]; exact hh 0 u hu
    · rw [if_neg (by omega), if_neg (by omega)]; exact hh 1 u hu
    · rw [if_neg (by omega), if_pos (by omega)]; exact hu
    · rw [if_pos (by omega)]; exact hu
  · rw [if_neg hik] at hk
    have hh := hcell k z hk j u hu
    rw [Nat.zero_add] at hh
    rw [if_neg (by omega), if_neg (by omega)]
    exact hh

set_option maxHeartbeats 16000000 in
theorem exB_any {s0 s1 s2 s3 s4 s5 s6 s7 s8 s9 s10 s11 s12 s13 s14 s15 s16 s17 s18 s19 s20 s21 s22 s23 s24 s25 s26 s27 s28 s29 s30 s31 s32 s33 s34 s35 s36 s37 s38 s39 s40 s41 s42 s43 s44 s45 s46 s47 s48 s49 s50 s51 s52 s53 s54 s55 s56 s57 s58 s59 s60 s61 s62 s63 s64 s65 s66 s67 s68 s69 s70 s71 s72 s73 s74 s75 s76 s77 s78 s79 s80 s81 s82 s83 s84 s85 s86 s87 s88 s89 s90 s91 s92 s93 s94 s95 s96 s97 s98 s99 s100 s101 s102 s103 s104 s105 s106 s107 s108 s109 s110 s111 s112 s113 s114 s115 s116 s117 s118 s119 s120 s121 s122 s123 s124 s125 s126 s127 s128 s129 s130 s131 s132 s133 s134 s135 s136 s137 s138 s139 s140 s141 s142 s143 s144 s145 s146 s147 s148 s149 s150 s151 s152 s153 s154 s155 s156 s157 s158 s159 s160 s161 s162 s163 s164 s165 s166 s167 s168 s169 s170 s171 s172 s173 s174 s175 s176 s177 s178 s179 s180 s181 s182 s183 s184 s185 s186 s187 s188 s189 s190 s191 s192 s193 s194 s195 s196 s197 s198 s199 s200 s201 s202 s203 s204 s205 s206 s207 s208 s209 s210 s211 s212 s213 s214 s215 s216 s217 s218 s219 s220 s221 s222 s223 s224 s225 s226 s227 s228 s229 s230 s231 s232 s233 s234 s235 s236 s237 s238 s239 s240 s241 s242 s243 s244 s245 s246 s247 s248 s249 s250 s251 s252 s253 s254 s255 s256 s257 s258 s259 s260 s261 s262 s263 s264 s265 s266 s267 s268 s269 s270 s271 s272 s273 s274 s275 s276 s277 s278 s279 s280 s281 s282 s283 s284 s285 s286 s287 s288 s289 s290 s291 s292 s293 s294 s295 s296 s297 s298 s299 s300 s301 s302 s303 s304 s305 s306 s307 s308 s309 s310 s311 s312 s313 s314 s315 s316 s317 s318 s319 s320 s321 s322 s323 s324 s325 s326 s327 s328 s329 s330 s331 s332 s333 s334 s335 s336 s337 s338 s339 s340 s341 s342 s343 s344 s345 s346 s347 s348 s349 s350 s351 s352 s353 s354 s355 s356 s357 s358 : Value} {w w8 : World} (hT : Tab w8) (hE0 : Ext w w8) :
    (restAt 10 (Tryd.f13.body.getD .skip)).wp Tryd.prog (bodyPost Tryd.prog Tryd.f13 fun e w' => e = .returned (.bool true) ∧ Ext w w') { tmps := #[s0, s1, s2, s3, s4, s5, s6, s7, s8, s9, s10, s11, s12, s13, s14, s15, s16, s17, s18, s19, s20, s21, s22, s23, s24, s25, s26, s27, s28, s29, s30, s31, s32, s33, s34, s35, s36, s37, s38, s39, s40, s41, s42, s43, s44, s45, s46, s47, s48, s49, s50, s51, s52, s53, s54, s55, s56, s57, s58, s59, s60, s61, s62, s63, s64, s65, s66, s67, s68, s69, s70, s71, s72, s73, s74, s75, s76, s77, s78, s79, s80, s81, s82, s83, s84, s85, s86, s87, s88, s89, s90, s91, s92, s93, s94, s95, s96, s97, s98, s99, s100, s101, s102, s103, s104, s105, s106, s107, s108, s109, s110, s111, s112, s113, s114, s115, s116, s117, s118, s119, s120, s121, s122, s123, s124, s125, s126, s127, s128, s129, s130, s131, s132, s133, s134, s135, s136, s137, s138, s139, s140, s141, s142, s143, s144, s145, s146, s147, s148, s149, s150, s151, s152, s153, s154, s155, s156, s157, s158, s159, s160, s161, s162, s163, s164, s165, s166, s167, s168, s169, s170, s171, s172, s173, s174, s175, s176, s177, s178, s179, s180, s181, s182, s183, s184, s185, s186, s187, s188, s189, s190, s191, s192, s193, s194, s195, s196, s197, s198, s199, s200, s201, s202, s203, s204, s205, s206, s207, s208, s209, s210, s211, s212, s213, s214, s215, s216, s217, s218, s219, s220, s221, s222, s223, s224, s225, s226, s227, s228, s229, s230, s231, s232, s233, s234, s235, s236, s237, s238, s239, s240, s241, s242, s243, s244, s245, s246, s247, s248, s249, s250, s251, s252, s253, s254, s255, s256, s257, s258, s259, s260, s261, s262, s263, s264, s265, s266, s267, s268, s269, s270, s271, s272, s273, s274, s275, s276, s277, s278, s279, s280, s281, s282, s283, s284, s285, s286, s287, s288, s289, s290, s291, s292, s293, s294, s295, s296, s297, s298, s299, s300, s301, s302, s303, s304, s305, s306, s307, s308, s309, s310, s311, s312, s313, s314, s315, s316, s317, s318, s319, s320, s321, s322, s323, s324, s325, s326, s327, s328, s329, s330, s331, s332, s333, s334, s335, s336, s337, s338, s339, s340, s341, s342, s343, s344, s345, s346, s347, s348, s349, s350, s351, s352, s353, s354, s355, s356, s357, s358], defers := [] } w8 := by
  have HT := Lib.hid hT
  have HE0 := Lib.hid hE0
  have E := Lib.hid (Ext.refl w8)
  clear hT hE0
  delta Tryd.f13
  simp only [restAt, Option.getD_some]
  go_wp2_with fail
  refine (bale0_any _).mono ?_
  rintro e w9 ⟨⟨v, rfl, tv⟩, hE⟩
  obtain ⟨dv, wv, rfl, o1, o2⟩ := tv
  obtain ⟨A1, n1, c1, rfl, -, -, -⟩ := (show SlD w9 dv (exB []).draws from o1.sl (fun _ => rfl)).form
  obtain ⟨A2, n2, c2, rfl, -, -, -⟩ := (show SlW w9 wv (exB []).weighs from o2.sl (fun _ => rfl)).form
  have O1 := Lib.hid o1; have O2 := Lib.hid o2
  have R1 := Lib.hid (fun g (h : (Value.slice A1 n1 c1).ownBlock = some g) => o1.rng h)
  have R2 := Lib.hid (fun g (h : (Value.slice A2 n2 c2).ownBlock = some g) => o2.rng h)
  have Z9 := Lib.hid hE.size
  replace E := Lib.hid (E.out.trans hE)
  clear o1 o2 hE
  go_wp2_with fail
  refine (bale0_any _).mono ?_
  rintro e w10 ⟨⟨v, rfl, tv⟩, hE⟩
  obtain ⟨dv, wv, rfl, o1, o2⟩ := tv
  obtain ⟨A3, n3, c3, rfl, -, -, -⟩ := (show SlD w10 dv (exB []).draws from o1.sl (fun _ => rfl)).form
  obtain ⟨A4, n4, c4, rfl, -, -, -⟩ := (show SlW w10 wv (exB []).weighs from o2.sl (fun _ => rfl)).form
  have O3 := Lib.hid o1; have O4 := Lib.hid o2
  have R3 := Lib.hid (fun g (h : (Value.slice A3 n3 c3).ownBlock = some g) => o1.rng h)
  have R4 := Lib.hid (fun g (h : (Value.slice A4 n4 c4).ownBlock = some g) => o2.rng h)
  have Z10 := Lib.hid hE.size
  replace E := Lib.hid (E.out.trans hE)
  replace O1 := Lib.hid (O1.out.ext hE); replace O2 := Lib.hid (O2.out.ext hE)
  clear o1 o2 hE
  go_wp2_with fail
  refine (bale0_any _).mono ?_
  rintro e w11 ⟨⟨v, rfl, tv⟩, hE⟩
  obtain ⟨dv, wv, rfl, o1, o2⟩ := tv
  obtain ⟨A5, n5, c5, rfl, -, -, -⟩ := (show SlD w11 dv (exB []).draws from o1.sl (fun _ => rfl)).form
  obtain ⟨A6, n6, c6, rfl, -, -, -⟩ := (show SlW w11 wv (exB []).weighs from o2.sl (fun _ => rfl)).form
  have O5 := Lib.hid o1; have O6 := Lib.hid o2
  have R5 := Lib.hid (fun g (h : (Value.slice A5 n5 c5).ownBlock = some g) => o1.rng h)
  have R6 := Lib.hid (fun g (h : (Value.slice A6 n6 c6).ownBlock = some g) => o2.rng h)
  have Z11 := Lib.hid hE.size
  replace E := Lib.hid (E.out.trans hE)
  replace O1 := Lib.hid (O1.out.ext hE); replace O2 := Lib.hid (O2.out.ext hE); replace O3 := Lib.hid (O3.out.ext hE); replace O4 := Lib.hid (O4.out.ext hE)
  clear o1 o2 hE
  go_wp2_with fail
  refine (draw_any 4 1 3 4 _).mono ?_
  rintro e w12 ⟨rfl, hE1⟩
  go_wp2_with fail
  refine (draw_any 5 2 3 3 _).mono ?_
  rintro e w13 ⟨rfl, hE2⟩
  go_wp2_with fail
  refine (draw_any 6 3 3 3 _).mono ?_
  rintro e w14 ⟨rfl, hE3⟩
  have hE := (hE1.trans hE2).trans hE3
  have Z14 := Lib.hid hE.size
  replace E := Lib.hid (E.out.trans hE)
  replace O1 := Lib.hid (O1.out.ext hE); replace O2 := Lib.hid (O2.out.ext hE); replace O3 := Lib.hid (O3.out.ext hE); replace O4 := Lib.hid (O4.out.ext hE); replace O5 := Lib.hid (O5.out.ext hE); replace O6 := Lib.hid (O6.out.ext hE)
  clear hE hE1 hE2 hE3
  go_wp2_with fail
  have Z14b := Lib.hid (show w14.heap.size ≤ (w14.alloc (.cells #[.int .i64 4, .int .i64 1, .int .i64 3, .int .i64 4, .int .i64 5, .int .i64 2, .int .i64 3, .int .i64 3, .int .i64 6, .int .i64 3, .int .i64 3, .int .i64 3] 63)).heap.size by simp)
  have EA := Lib.hid (Ext.al w14 (.cells #[.int .i64 4, .int .i64 1, .int .i64 3, .int .i64 4, .int .i64 5, .int .i64 2, .int .i64 3, .int .i64 3, .int .i64 6, .int .i64 3, .int .i64 3, .int .i64 3] 63))
  have L1 := Lib.hid (show SlD (w14.alloc (.cells #[.int .i64 4, .int .i64 1, .int .i64 3, .int .i64 4, .int .i64 5, .int .i64 2, .int .i64 3, .int .i64 3, .int .i64 6, .int .i64 3, .int .i64 3, .int .i64 3] 63)) (.slice (some ⟨w14.heap.size, 0, none⟩) 3 3) [⟨4, 1, ⟨3, 4⟩⟩, ⟨5, 2, ⟨3, 3⟩⟩, ⟨6, 3, ⟨3, 3⟩⟩] from
    Own.sl (enc := encD) (sz := 4) (fun _ => rfl) (Own.lit (l := ([⟨4, 1, ⟨3, 4⟩⟩, ⟨5, 2, ⟨3, 3⟩⟩, ⟨6, 3, ⟨3, 3⟩⟩] : List Draw)) (e := 63) (base := 0) (fun _ => rfl) (Blk.new _ _ _) (by simp) (Nat.zero_le _) (by decide)))
  refine (bale_any [⟨4, 1, ⟨3, 4⟩⟩, ⟨5, 2, ⟨3, 3⟩⟩, ⟨6, 3, ⟨3, 3⟩⟩] _ _ L1.out (by decide)).mono ?_
  rintro e w15 ⟨⟨v, rfl, tv⟩, hE⟩
  obtain ⟨dv, wv, rfl, o1, o2⟩ := tv
  obtain ⟨A7, n7, c7, rfl, -, -, -⟩ := (show SlD w15 dv exPlain.draws from o1.sl (fun _ => rfl)).form
  obtain ⟨A8, n8, c8, rfl, -, -, -⟩ := (show SlW w15 wv exPlain.weighs from o2.sl (fun _ => rfl)).form
  have O7 := Lib.hid o1; have O8 := Lib.hid o2
  have R7 := Lib.hid (fun g (h : (Value.slice A7 n7 c7).ownBlock = some g) => o1.rng h)
  have R8 := Lib.hid (fun g (h : (Value.slice A8 n8 c8).ownBlock = some g) => o2.rng h)
  have Z15 := Lib.hid hE.size
  replace hE := EA.out.trans hE
  replace E := Lib.hid (E.out.trans hE)
  replace O1 := Lib.hid (O1.out.ext hE); replace O2 := Lib.hid (O2.out.ext hE); replace O3 := Lib.hid (O3.out.ext hE); replace O4 := Lib.hid (O4.out.ext hE); replace O5 := Lib.hid (O5.out.ext hE); replace O6 := Lib.hid (O6.out.ext hE)
  clear o1 o2 hE EA L1
  dsimp only [valB]
  go_wp2
  change Code.wp _ _ _ _ ((((w15.alloc (.cells #[.int .i64 1, .int .i64 0, .int .i64 400, .int .i64 500, .slice A1 n1 c1, .slice A2 n2 c2] 27)).alloc (.cells #[.int .i64 1, .int .i64 4, .int .i64 400, .int .i64 500, .slice A3 n3 c3, .slice A4 n4 c4] 27)).alloc (.cells #[.int .i64 1, .int .i64 4, .int .i64 400, .int .i64 500, .slice A5 n5 c5, .slice A6 n6 c6] 27)).alloc (.cells #[.int .i64 1, .int .i64 4, .int .i64 400, .int .i64 500, .slice A7 n7 c7, .slice A8 n8 c8] 27))
  have E16 := Lib.hid (show Ext w15 ((((w15.alloc (.cells #[.int .i64 1, .int .i64 0, .int .i64 400, .int .i64 500, .slice A1 n1 c1, .slice A2 n2 c2] 27)).alloc (.cells #[.int .i64 1, .int .i64 4, .int .i64 400, .int .i64 500, .slice A3 n3 c3, .slice A4 n4 c4] 27)).alloc (.cells #[.int .i64 1, .int .i64 4, .int .i64 400, .int .i64 500, .slice A5 n5 c5, .slice A6 n6 c6] 27)).alloc (.cells #[.int .i64 1, .int .i64 4, .int .i64 400, .int .i64 500, .slice A7 n7 c7, .slice A8 n8 c8] 27)) from (((Ext.al w15 (.cells #[.int .i64 1, .int .i64 0, .int .i64 400, .int .i64 500, .slice A1 n1 c1, .slice A2 n2 c2] 27)).alloc (.cells #[.int .i64 1, .int .i64 4, .int .i64 400, .int .i64 500, .slice A3 n3 c3, .slice A4 n4 c4] 27)).alloc (.cells #[.int .i64 1, .int .i64 4, .int .i64 400, .int .i64 500, .slice A5 n5 c5, .slice A6 n6 c6] 27)).alloc (.cells #[.int .i64 1, .int .i64 4, .int .i64 400, .int .i64 500, .slice A7 n7 c7, .slice A8 n8 c8] 27))
  have P16 := Lib.hid (show Blk ((((w15.alloc (.cells #[.int .i64 1, .int .i64 0, .int .i64 400, .int .i64 500, .slice A1 n1 c1, .slice A2 n2 c2] 27)).alloc (.cells #[.int .i64 1, .int .i64 4, .int .i64 400, .int .i64 500, .slice A3 n3 c3, .slice A4 n4 c4] 27)).alloc (.cells #[.int .i64 1, .int .i64 4, .int .i64 400, .int .i64 500, .slice A5 n5 c5, .slice A6 n6 c6] 27)).alloc (.cells #[.int .i64 1, .int .i64 4, .int .i64 400, .int .i64 500, .slice A7 n7 c7, .slice A8 n8 c8] 27)) (w15.heap.size) 27 #[.int .i64 1, .int .i64 0, .int .i64 400, .int .i64 500, .slice A1 n1 c1, .slice A2 n2 c2] from ((((Blk.at_ (w := w15) (g := w15.heap.size) (t := 27) (cs := #[.int .i64 1, .int .i64 0, .int .i64 400, .int .i64 500, .slice A1 n1 c1, .slice A2 n2 c2]) (by simp)).alloc (.cells #[.int .i64 1, .int .i64 4, .int .i64 400, .int .i64 500, .slice A3 n3 c3, .slice A4 n4 c4] 27)).alloc (.cells #[.int .i64 1, .int .i64 4, .int .i64 400, .int .i64 500, .slice A5 n5 c5, .slice A6 n6 c6] 27)).alloc (.cells #[.int .i64 1, .int .i64 4, .int .i64 400, .int .i64 500, .slice A7 n7 c7, .slice A8 n8 c8] 27)))
  have P17 := Lib.hid (show Blk ((((w15.alloc (.cells #[.int .i64 1, .int .i64 0, .int .i64 400, .int .i64 500, .slice A1 n1 c1, .slice A2 n2 c2] 27)).alloc (.cells #[.int .i64 1, .int .i64 4, .int .i64 400, .int .i64 500, .slice A3 n3 c3, .slice A4 n4 c4] 27)).alloc (.cells #[.int .i64 1, .int .i64 4, .int .i64 400, .int .i64 500, .slice A5 n5 c5, .slice A6 n6 c6] 27)).alloc (.cells #[.int .i64 1, .int .i64 4, .int .i64 400, .int .i64 500, .slice A7 n7 c7, .slice A8 n8 c8] 27)) (w15.heap.size + 1) 27 #[.int .i64 1, .int .i64 4, .int .i64 400, .int .i64 500, .slice A3 n3 c3, .slice A4 n4 c4] from (((Blk.at_ (w := (w15.alloc (.cells #[.int .i64 1, .int .i64 0, .int .i64 400, .int .i64 500, .slice A1 n1 c1, .slice A2 n2 c2] 27))) (g := w15.heap.size + 1) (t := 27) (cs := #[.int .i64 1, .int .i64 4, .int .i64 400, .int .i64 500, .slice A3 n3 c3, .slice A4 n4 c4]) (by simp)).alloc (.cells #[.int .i64 1, .int .i64 4, .int .i64 400, .int .i64 500, .slice A5 n5 c5, .slice A6 n6 c6] 27)).alloc (.cells #[.int .i64 1, .int .i64 4, .int .i64 400, .int .i64 500, .slice A7 n7 c7, .slice A8 n8 c8] 27)))
  have P18 := Lib.hid (show Blk ((((w15.alloc (.cells #[.int .i64 1, .int .i64 0, .int .i64 400, .int .i64 500, .slice A1 n1 c1, .slice A2 n2 c2] 27)).alloc (.cells #[.int .i64 1, .int .i64 4, .int .i64 400, .int .i64 500, .slice A3 n3 c3, .slice A4 n4 c4] 27)).alloc (.cells #[.int .i64 1, .int .i64 4, .int .i64 400, .int .i64 500, .slice A5 n5 c5, .slice A6 n6 c6] 27)).alloc (.cells #[.int .i64 1, .int .i64 4, .int .i64 400, .int .i64 500, .slice A7 n7 c7, .slice A8 n8 c8] 27)) (w15.heap.size + 1 + 1) 27 #[.int .i64 1, .int .i64 4, .int .i64 400, .int .i64 500, .slice A5 n5 c5, .slice A6 n6 c6] from ((Blk.at_ (w := ((w15.alloc (.cells #[.int .i64 1, .int .i64 0, .int .i64 400, .int .i64 500, .slice A1 n1 c1, .slice A2 n2 c2] 27)).alloc (.cells #[.int .i64 1, .int .i64 4, .int .i64 400, .int .i64 500, .slice A3 n3 c3, .slice A4 n4 c4] 27))) (g := w15.heap.size + 1 + 1) (t := 27) (cs := #[.int .i64 1, .int .i64 4, .int .i64 400, .int .i64 500, .slice A5 n5 c5, .slice A6 n6 c6]) (by simp)).alloc (.cells #[.int .i64 1, .int .i64 4, .int .i64 400, .int .i64 500, .slice A7 n7 c7, .slice A8 n8 c8] 27)))
  have P19 := Lib.hid (show Blk ((((w15.alloc (.cells #[.int .i64 1, .int .i64 0, .int .i64 400, .int .i64 500, .slice A1 n1 c1, .slice A2 n2 c2] 27)).alloc (.cells #[.int .i64 1, .int .i64 4, .int .i64 400, .int .i64 500, .slice A3 n3 c3, .slice A4 n4 c4] 27)).alloc (.cells #[.int .i64 1, .int .i64 4, .int .i64 400, .int .i64 500, .slice A5 n5 c5, .slice A6 n6 c6] 27)).alloc (.cells #[.int .i64 1, .int .i64 4, .int .i64 400, .int .i64 500, .slice A7 n7 c7, .slice A8 n8 c8] 27)) (w15.heap.size + 1 + 1 + 1) 27 #[.int .i64 1, .int .i64 4, .int .i64 400, .int .i64 500, .slice A7 n7 c7, .slice A8 n8 c8] from (Blk.at_ (w := (((w15.alloc (.cells #[.int .i64 1, .int .i64 0, .int .i64 400, .int .i64 500, .slice A1 n1 c1, .slice A2 n2 c2] 27)).alloc (.cells #[.int .i64 1, .int .i64 4, .int .i64 400, .int .i64 500, .slice A3 n3 c3, .slice A4 n4 c4] 27)).alloc (.cells #[.int .i64 1, .int .i64 4, .int .i64 400, .int .i64 500, .slice A5 n5 c5, .slice A6 n6 c6] 27))) (g := w15.heap.size + 1 + 1 + 1) (t := 27) (cs := #[.int .i64 1, .int .i64 4, .int .i64 400, .int .i64 500, .slice A7 n7 c7, .slice A8 n8 c8]) (by simp)))
  have ZZ := Lib.hid (show ((((w15.alloc (.cells #[.int .i64 1, .int .i64 0, .int .i64 400, .int .i64 500, .slice A1 n1 c1, .slice A2 n2 c2] 27)).alloc (.cells #[.int .i64 1, .int .i64 4, .int .i64 400, .int .i64 500, .slice A3 n3 c3, .slice A4 n4 c4] 27)).alloc (.cells #[.int .i64 1, .int .i64 4, .int .i64 400, .int .i64 500, .slice A5 n5 c5, .slice A6 n6 c6] 27)).alloc (.cells #[.int .i64 1, .int .i64 4, .int .i64 400, .int .i64 500, .slice A7 n7 c7, .slice A8 n8 c8] 27)).heap.size = w15.heap.size + 4 by simp)
  generalize ((((w15.alloc (.cells #[.int .i64 1, .int .i64 0, .int .i64 400, .int .i64 500, .slice A1 n1 c1, .slice A2 n2 c2] 27)).alloc (.cells #[.int .i64 1, .int .i64 4, .int .i64 400, .int .i64 500, .slice A3 n3 c3, .slice A4 n4 c4] 27)).alloc (.cells #[.int .i64 1, .int .i64 4, .int .i64 400, .int .i64 500, .slice A5 n5 c5, .slice A6 n6 c6] 27)).alloc (.cells #[.int .i64 1, .int .i64 4, .int .i64 400, .int .i64 500, .slice A7 n7 c7, .slice A8 n8 c8] 27)) = w16 at E16 P16 P17 P18 P19 ZZ ⊢
  have Z16 := Lib.hid (show w8.heap.size ≤ w9.heap.size ∧ w9.heap.size ≤ w10.heap.size ∧ w10.heap.size ≤ w11.heap.size ∧ w11.heap.size ≤ w14.heap.size ∧ w14.heap.size ≤ w15.heap.size ∧ w16.heap.size = w15.heap.size + 4 by
    have := Z9.out; have := Z10.out; have := Z11.out; have := Z14.out; have := Z14b.out; have := Z15.out; have := ZZ.out
    omega)
  replace R7 := Lib.hid (fun g h => show w14.heap.size ≤ g ∧ g < w15.heap.size by have := R7.out g h; have := Z14b.out; omega)
  replace R8 := Lib.hid (fun g h => show w14.heap.size ≤ g ∧ g < w15.heap.size by have := R8.out g h; have := Z14b.out; omega)
  clear Z9 Z10 Z11 Z14 Z14b Z15 ZZ
  replace O1 := Lib.hid (O1.out.ext E16.out); replace O2 := Lib.hid (O2.out.ext E16.out); replace O3 := Lib.hid (O3.out.ext E16.out); replace O4 := Lib.hid (O4.out.ext E16.out); replace O5 := Lib.hid (O5.out.ext E16.out); replace O6 := Lib.hid (O6.out.ext E16.out); replace O7 := Lib.hid (O7.out.ext E16.out); replace O8 := Lib.hid (O8.out.ext E16.out)
  replace E := Lib.hid (E.out.trans E16.out)
  clear E16
  have F0 := Lib.hid (show FB w16 w9.heap.size w10.heap.size (w15.heap.size + 1) (fdTo 0) (fwTo 0) (.slice A3 n3 c3) (.slice A4 n4 c4) w16 from
    ⟨rfl, rfl, rfl, Nat.le_refl _, fun _ _ _ _ => rfl, P17.out, own_newF (fun _ => rfl) O3.out (by decide), own_newF (fun _ => rfl) O4.out (by decide), fun g h => .inl (R3.out g h), fun g h => .inl (R4.out g h)⟩)
  have hn3 : n3 = 3 := by obtain ⟨_, _, e, _⟩ := (show SlD w16 (.slice A3 n3 c3) (exB []).draws from O3.out.sl (fun _ => rfl)); injection e
  have hn4 : n4 = 2 := by obtain ⟨_, _, e, _⟩ := (show SlW w16 (.slice A4 n4 c4) (exB []).weighs from O4.out.sl (fun _ => rfl)); injection e
  subst hn3 hn4
  clear P17 O3 O4 R3 R4
  go_loopg [154] 7 (fun gg s154 wr => ∃ (k : Nat) (A : Option Addr) (c : Nat), k ≤ 7 ∧ 7 - k ≤ gg ∧ Aside (FB w16 w9.heap.size w10.heap.size (w15.heap.size + 1) (fdTo k) (fwTo 0) (.slice A (3 + k) c) (.slice A4 2 c4) wr))
  case atStart => exact ⟨0, _, _, by omega, by omega, F0.out⟩
  case round =>
    obtain ⟨k, A, c, hk, hg, FR⟩ := hrel
    by_cases hlt : k < 7
    · -- BLOCK d
      have hk0 : (3 : Int) + (k : Int) < 10 := by omega
      have x4 : wr.cell? ⟨w15.heap.size + 1, 4, none⟩ = some (.slice A (3 + k) c) := FR.out.blk.cell 4
      have xl := FR.out.blk.lt
      go_wp2
      clear x4 xl
      have m4 := fun V (h : FB w16 w9.heap.size w10.heap.size (w15.heap.size + 1) (fdTo k) (fwTo 0) (.slice A (3 + k) c) (.slice A4 2 c4) V) => (show V.cell? ⟨w15.heap.size + 1, 4, none⟩ = some (.slice A (3 + k) c) from h.blk.cell 4)
      have hwk : IntKind.i64.wrap (10 + (3 + (k : Int))) = 13 + (k : Int) := by rw [wrap_small _ (by omega) (by omega)]; omega
      have HK := Lib.hid hlt
      refine wp_region_tame_cut (fun V => FB w16 w9.heap.size w10.heap.size (w15.heap.size + 1) (fdTo k) (fwTo 0) (.slice A (3 + k) c) (.slice A4 2 c4) V) (RF encD 4 63 0 (fdTo k ++ [⟨13 + (k : Int), 2, ⟨1, 9⟩⟩]) ⟨13 + (k : Int), 2, ⟨1, 9⟩⟩) (by kernel_rfl) 359 rfl _ rfl (by decide +kernel) (by decide +kernel) (by decide +kernel) rfl (FR.out.ext (Ext.refl _).drew) ?_
      simp only [List.dropLast]
      repeat (apply tame_q rfl; (intro ρ W hC hr hD; (obtain ⟨hrc, hrg, hrf, hrs⟩ := hr); (simp [go_sem] at hD); go_simp; first | exact ⟨⟨hC, RF.refl _⟩, rfl⟩ | exact rfl); simp only [List.nil_append, List.cons_append])
      apply tame_q rfl
      · intro ρ V hC hr hD
        obtain ⟨hrc, hrg, hrf, hrs⟩ := hr
        simp [go_sem] at hD
        go_simp
        refine (draw_any (13 + (k : Int)) 2 1 9 _).mono ?_
        rintro e w' ⟨rfl, hE⟩
        exact ⟨_, rfl, ⟨hC.ext hE, RF.ext hE⟩, rfl⟩
      simp only [List.nil_append, List.cons_append]
      apply tame_v rfl (OneF encD 63 ⟨13 + (k : Int), 2, ⟨1, 9⟩⟩) (fun v V V' _ hR h => by obtain ⟨g, h1, h2⟩ := h; exact ⟨g, h1, hR.2.2.1 g h2⟩)
      · intro ρ V hC hr hD
        obtain ⟨hrc, hrg, hrf, hrs⟩ := hr
        simp [go_sem] at hD
        go_simp
        exact ⟨⟨hC.ext (Ext.al _ _), RF.ext (Ext.al _ _)⟩, ⟨_, rfl, Blk.new _ _ _⟩⟩
      simp only [List.nil_append, List.cons_append]
      apply tame_v rfl (AppD w16 w9.heap.size w10.heap.size (fdTo k ++ [⟨13 + (k : Int), 2, ⟨1, 9⟩⟩])) (fun v V V' _ hR h => ⟨⟨hR.2.1 _ (List.prefix_refl _) v h.1.1, h.1.2⟩, h.2⟩)
      · intro ρ V hC hr hD
        obtain ⟨hrc, hrg, hrf, hrs⟩ := hr
        simp [go_sem] at hD
        obtain ⟨d1, d2, -⟩ := hD
        obtain ⟨v', V', hrun, hnew, hR, hO, hG, hv⟩ := run_appH (t := 24) (ty := 24) (enc := encD) (sz := 4) (y := ⟨13 + (k : Int), 2, ⟨1, 9⟩⟩) Tryd.underlying24 info63x rfl (by decide) (by decide) (fun _ => rfl) encD_1 hC.d (by rw [fdTo_len]; have := HK.out; omega) d2
        rw [← d1] at hrun
        show opGives _ _ _ _ _ _ _
        unfold opGives execOp
        simp only [resolve, invoke, builtin, Sem.run_bind, Sem.run_pure, Result.andThen_ok, List.map_toArray, List.map_cons, List.map_nil, hrun]
        refine ⟨⟨hC.oldD hR hO hG, hR⟩, hnew, fun g hg => ?_⟩
        rcases hv with hv | hv
        · exact hC.dO g (hv ▸ hg)
        · rw [hv] at hg
          injection hg with hg
          right; rw [← hg]; exact hC.size
      simp only [List.nil_append, List.cons_append]
      repeat (apply tame_q rfl; (intro ρ W hC hr hD; (obtain ⟨hrc, hrg, hrf, hrs⟩ := hr); (simp [go_sem] at hD); go_simp; first | exact ⟨⟨hC, RF.refl _⟩, rfl⟩ | exact rfl); simp only [List.nil_append, List.cons_append])
      refine tame_end_put rfl rfl (fun ρ V hC hr hF => ?_)
      simp [go_sem] at hF
      obtain ⟨f1, f2, f3, f4, f5, f6, f7, -, hN, f10⟩ := hF
      simp only [putF, f1, f2, f3, f4, f5, f6, f7, f10, List.set_cons_succ, List.set_cons_zero]
      generalize ρ (Operand.tmp 163) = dv2 at *
      generalize ρ (Operand.tmp 162) = u162 at *
      obtain ⟨A9, c9, e2, -⟩ := hN.1.2
      rw [List.length_append, fdTo_len, List.length_singleton, Nat.add_assoc] at e2
      subst e2
      have HN2 := Lib.hid hN
      have FV := Lib.hid hC
      clear f1 f2 f3 f4 f5 f6 f7 f10 hN hr hC m4 hwk
      have x4 : V.cell? ⟨w15.heap.size + 1, 4, none⟩ = some (.slice A (3 + k) c) := FV.out.blk.cell 4
      have xl := FV.out.blk.lt
      have xf := FV.out.blk.frozen 4
      go_wp2
      go_roundg (7 - (k + 1))
      case measure => omega
      case rel => exact ⟨k + 1, _, _, by omega, by omega, (by
        have h := FV.out.putD HN2.out
        rw [← fdTo_succ] at h
        exact h)⟩
      -- END d
    · obtain rfl : k = 7 := by omega
      have x4 : wr.cell? ⟨w15.heap.size + 1, 4, none⟩ = some (.slice A (3 + 7) c) := FR.out.blk.cell 4
      have xl := FR.out.blk.lt
      go_wp2
      clear x4 xl
      go_loopg [168] 6 (fun gg s168 wr => ∃ (k : Nat) (A4 : Option Addr) (c4 : Nat), k ≤ 6 ∧ 6 - k ≤ gg ∧ Aside (FB w16 w9.heap.size w10.heap.size (w15.heap.size + 1) (fdTo 7) (fwTo k) (.slice A (3 + 7) c) (.slice A4 (2 + k) c4) wr))
      case atStart => exact ⟨0, _, _, by omega, by omega, FR.out⟩
      case round =>
        obtain ⟨k, A4, c4, hk, hg, FR⟩ := hrel
        by_cases hlt : k < 6
        · -- BLOCK e
          have hk0 : (2 : Int) + (k : Int) < 8 := by omega
          have x5 : wr.cell? ⟨w15.heap.size + 1, 5, none⟩ = some (.slice A4 (2 + k) c4) := FR.out.blk.cell 5
          have xl := FR.out.blk.lt
          go_wp2
          clear x5 xl
          have m4 := fun V (h : FB w16 w9.heap.size w10.heap.size (w15.heap.size + 1) (fdTo 7) (fwTo k) (.slice A (3 + 7) c) (.slice A4 (2 + k) c4) V) => (show V.cell? ⟨w15.heap.size + 1, 5, none⟩ = some (.slice A4 (2 + k) c4) from h.blk.cell 5)
          have hwk : IntKind.i64.wrap (10 + (2 + (k : Int))) = 12 + (k : Int) := by rw [wrap_small _ (by omega) (by omega)]; omega
          have HK := Lib.hid hlt
          refine wp_region_tame_cut (fun V => FB w16 w9.heap.size w10.heap.size (w15.heap.size + 1) (fdTo 7) (fwTo k) (.slice A (3 + 7) c) (.slice A4 (2 + k) c4) V) (RF encW 4 65 0 (fwTo k ++ [⟨12 + (k : Int), 450, ⟨0, 200⟩⟩]) ⟨12 + (k : Int), 450, ⟨0, 200⟩⟩) (by kernel_rfl) 359 rfl _ rfl (by decide +kernel) (by decide +kernel) (by decide +kernel) rfl (FR.out.ext (Ext.refl _).drew) ?_
          simp only [List.dropLast]
          repeat (apply tame_q rfl; (intro ρ W hC hr hD; (obtain ⟨hrc, hrg, hrf, hrs⟩ := hr); (simp [go_sem] at hD); go_simp; first | exact ⟨⟨hC, RF.refl _⟩, rfl⟩ | exact rfl); simp only [List.nil_append, List.cons_append])
          apply tame_q rfl
          · intro ρ V hC hr hD
            obtain ⟨hrc, hrg, hrf, hrs⟩ := hr
            simp [go_sem] at hD
            go_simp
            refine (weigh_any (12 + (k : Int)) 450 0 200 _).mono ?_
            rintro e w' ⟨rfl, hE⟩
            exact ⟨_, rfl, ⟨hC.ext hE, RF.ext hE⟩, rfl⟩
          simp only [List.nil_append, List.cons_append]
          apply tame_v rfl (OneF encW 65 ⟨12 + (k : Int), 450, ⟨0, 200⟩⟩) (fun v V V' _ hR h => by obtain ⟨g, h1, h2⟩ := h; exact ⟨g, h1, hR.2.2.1 g h2⟩)
          · intro ρ V hC hr hD
            obtain ⟨hrc, hrg, hrf, hrs⟩ := hr
            simp [go_sem] at hD
            go_simp
            exact ⟨⟨hC.ext (Ext.al _ _), RF.ext (Ext.al _ _)⟩, ⟨_, rfl, Blk.new _ _ _⟩⟩
          simp only [List.nil_append, List.cons_append]
          apply tame_v rfl (AppW w16 w9.heap.size w10.heap.size (fwTo k ++ [⟨12 + (k : Int), 450, ⟨0, 200⟩⟩])) (fun v V V' _ hR h => ⟨⟨hR.2.1 _ (List.prefix_refl _) v h.1.1, h.1.2⟩, h.2⟩)
          · intro ρ V hC hr hD
            obtain ⟨hrc, hrg, hrf, hrs⟩ := hr
            simp [go_sem] at hD
            obtain ⟨d1, d2, -⟩ := hD
            obtain ⟨v', V', hrun, hnew, hR, hO, hG, hv⟩ := run_appH (t := 25) (ty := 25) (enc := encW) (sz := 4) (y := ⟨12 + (k : Int), 450, ⟨0, 200⟩⟩) Tryd.underlying25 info65x rfl (by decide) (by decide) (fun _ => rfl) encW_1 hC.w (by rw [fwTo_len]; have := HK.out; omega) d2
            rw [← d1] at hrun
            show opGives _ _ _ _ _ _ _
            unfold opGives execOp
            simp only [resolve, invoke, builtin, Sem.run_bind, Sem.run_pure, Result.andThen_ok, List.map_toArray, List.map_cons, List.map_nil, hrun]
            refine ⟨⟨hC.oldW hR hO hG, hR⟩, hnew, fun g hg => ?_⟩
            rcases hv with hv | hv
            · exact hC.wO g (hv ▸ hg)
            · rw [hv] at hg
              injection hg with hg
              right; rw [← hg]; exact hC.size
          simp only [List.nil_append, List.cons_append]
          repeat (apply tame_q rfl; (intro ρ W hC hr hD; (obtain ⟨hrc, hrg, hrf, hrs⟩ := hr); (simp [go_sem] at hD); go_simp; first | exact ⟨⟨hC, RF.refl _⟩, rfl⟩ | exact rfl); simp only [List.nil_append, List.cons_append])
          refine tame_end_put rfl rfl (fun ρ V hC hr hF => ?_)
          simp [go_sem] at hF
          obtain ⟨f1, f2, f3, f4, f5, f6, f7, -, hN, f10⟩ := hF
          simp only [putF, f1, f2, f3, f4, f5, f6, f7, f10, List.set_cons_succ, List.set_cons_zero]
          generalize ρ (Operand.tmp 177) = dv2 at *
          generalize ρ (Operand.tmp 176) = u176 at *
          obtain ⟨A9, c9, e2, -⟩ := hN.1.2
          rw [List.length_append, fwTo_len, List.length_singleton, Nat.add_assoc] at e2
          subst e2
          have HN2 := Lib.hid hN
          have FV := Lib.hid hC
          clear f1 f2 f3 f4 f5 f6 f7 f10 hN hr hC m4 hwk
          have x4 : V.cell? ⟨w15.heap.size + 1, 5, none⟩ = some (.slice A4 (2 + k) c4) := FV.out.blk.cell 5
          have xl := FV.out.blk.lt
          have xf := FV.out.blk.frozen 5
          go_wp2
          go_roundg (6 - (k + 1))
          case measure => omega
          case rel => exact ⟨k + 1, _, _, by omega, by omega, (by
            have h := FV.out.putW HN2.out
            rw [← fwTo_succ] at h
            exact h)⟩
          -- END e
        · obtain rfl : k = 6 := by omega
          have x5 : wr.cell? ⟨w15.heap.size + 1, 5, none⟩ = some (.slice A4 (2 + 6) c4) := FR.out.blk.cell 5
          have xl := FR.out.blk.lt
          go_wp2
          clear x5 xl
          have Q1 := Lib.hid (O1.out.same fun g h => FR.out.st g (by have := R1.out g h; have := Z16.out; omega) (.inl (by have := R1.out g h; have := Z16.out; omega)) (by have := R1.out g h; have := Z16.out; omega))
          have Q2 := Lib.hid (O2.out.same fun g h => FR.out.st g (by have := R2.out g h; have := Z16.out; omega) (.inl (by have := R2.out g h; have := Z16.out; omega)) (by have := R2.out g h; have := Z16.out; omega))
          have Q5 := Lib.hid (O5.out.same fun g h => FR.out.st g (by have := R5.out g h; have := Z16.out; omega) (.inr (by have := R5.out g h; have := Z16.out; omega)) (by have := R5.out g h; have := Z16.out; omega))
          have Q6 := Lib.hid (O6.out.same fun g h => FR.out.st g (by have := R6.out g h; have := Z16.out; omega) (.inr (by have := R6.out g h; have := Z16.out; omega)) (by have := R6.out g h; have := Z16.out; omega))
          have Q7 := Lib.hid (O7.out.same fun g h => FR.out.st g (by have := R7.out g h; have := Z16.out; omega) (.inr (by have := R7.out g h; have := Z16.out; omega)) (by have := R7.out g h; have := Z16.out; omega))
          have Q8 := Lib.hid (O8.out.same fun g h => FR.out.st g (by have := R8.out g h; have := Z16.out; omega) (.inr (by have := R8.out g h; have := Z16.out; omega)) (by have := R8.out g h; have := Z16.out; omega))
          have B16 := Lib.hid (show Blk wr w15.heap.size 27 _ from (FR.out.st _ (by have := Z16.out; omega) (.inr (by have := Z16.out; omega)) (by omega)).trans P16.out)
          have B18 := Lib.hid (show Blk wr (w15.heap.size + 1 + 1) 27 _ from (FR.out.st _ (by have := Z16.out; omega) (.inr (by have := Z16.out; omega)) (by omega)).trans P18.out)
          have B19 := Lib.hid (show Blk wr (w15.heap.size + 1 + 1 + 1) 27 _ from (FR.out.st _ (by have := Z16.out; omega) (.inr (by have := Z16.out; omega)) (by omega)).trans P19.out)
          have EW := Lib.hid (show Ext w8 wr from ⟨FR.out.os.trans E.out.os, FR.out.tape.trans E.out.tape, FR.out.output.trans E.out.output, Nat.le_trans E.out.size FR.out.size, fun i hi => (FR.out.st i (by have := Z16.out; omega) (.inl (by have := Z16.out; omega)) (by have := Z16.out; omega)).trans (E.out.block i hi)⟩)
          clear O1 O2 O5 O6 O7 O8 P16 P18 P19 E
          have h6 : Own encW 65 4 wr w10.heap.size (.slice A6 n6 c6) (exB []).weighs := Q6.out
          unfold Own at h6
          rw [show (exB []).weighs.length = 1 + 1 from rfl] at h6
          obtain ⟨g6, cap6, e6, hg6, row6, hrow6⟩ := own_succ2 h6
          injection e6 with e61 e62 e63
          subst e61 e62 e63
          have HG6 := Lib.hid (show w10.heap.size ≤ g6 ∧ g6 < w11.heap.size from R6.out g6 rfl)
          have B6 := Lib.hid (show Blk wr g6 65 row6 from hrow6)
          clear h6 hg6 hrow6
          have x5 := fun V (h : Ext wr V) => (show V.cell? ⟨w15.heap.size + 1 + 1, 5, none⟩ = some (.slice (some ⟨g6, 0, none⟩) (1 + 1) c6) from (B18.out.ext h).cell 5)
          refine wp_region_tame_cut (fun V => Ext wr V) (fun V V' => Ext V V') (by kernel_rfl) 359 rfl _ rfl (by decide +kernel) (by decide +kernel) (by decide +kernel) rfl (Ext.refl _).drew ?_
          simp only [List.dropLast]
          repeat (apply tame_q rfl; (intro ρ W hC hr hD; (obtain ⟨hrc, hrg, hrf, hrs⟩ := hr); (simp [go_sem] at hD); go_simp; first | exact ⟨⟨hC, Ext.refl _⟩, rfl⟩ | exact ⟨⟨hC, RS.refl _⟩, rfl⟩ | exact rfl); simp only [List.nil_append, List.cons_append])
          apply tame_q rfl
          · intro ρ V hC hr hD
            obtain ⟨hrc, hrg, hrf, hrs⟩ := hr
            simp [go_sem] at hD
            go_simp
            refine (span_any 0 10 _).mono ?_
            rintro e w' ⟨rfl, hE⟩
            exact ⟨_, rfl, ⟨hC.trans hE, hE⟩, rfl⟩
          simp only [List.nil_append, List.cons_append]
          repeat (apply tame_q rfl; (intro ρ W hC hr hD; (obtain ⟨hrc, hrg, hrf, hrs⟩ := hr); (simp [go_sem] at hD); go_simp; first | exact ⟨⟨hC, Ext.refl _⟩, rfl⟩ | exact ⟨⟨hC, RS.refl _⟩, rfl⟩ | exact rfl); simp only [List.nil_append, List.cons_append])
          refine tame_end_put rfl rfl (fun ρ V hC hr hF => ?_)
          simp [go_sem] at hF
          simp only [putF, hF, List.set_cons_succ, List.set_cons_zero]
          have EV := Lib.hid hC
          clear hF hr hC x5
          have hsw : SlW V (.slice (some ⟨g6, 0, none⟩) 2 c6) (exB []).weighs := (Own.sl (enc := encW) (sz := 4) (fun _ => rfl) Q6.out).ext EV.out
          obtain ⟨bq, oq, xq, eq1, hxq, hbq, hcq⟩ := hsw.at_ (show 0 < 2 by decide)
          injection eq1 with eq1
          injection eq1 with eq1 eq2
          subst eq1 eq2
          have y2 : V.cell? ⟨g6, 2, none⟩ = some (.int .i64 xq.damp.lo) := by have := hcq V (Ext.refl _) 2 _ rfl; simpa using this
          have y3 : V.cell? ⟨g6, 3, none⟩ = some (.int .i64 xq.damp.hi) := by have := hcq V (Ext.refl _) 3 _ rfl; simpa using this
          have yf := (B6.out.ext EV.out).frozen
          have yl : g6 < V.heap.size := (B6.out.ext EV.out).lt
          have HPW := Lib.hid (show SlW ((V.setCell ⟨g6, 2, none⟩ (.int .i64 0)).setCell ⟨g6, 3, none⟩ (.int .i64 10)) (.slice (some ⟨g6, 0, none⟩) 2 c6) exWetB.weighs by
            have := Sl.putH (i := 0) (x := ⟨1, 480, ⟨60, 90⟩⟩) (s := ⟨0, 10⟩) hsw (by decide) rfl
            rw [show exWetB.weighs = (exB []).weighs.set 0 ⟨1, 480, ⟨0, 10⟩⟩ from rfl]
            simpa using this)
          clear hxq hcq hbq hsw
          dsimp only [valS]
          have hG : V.grownBy ((V.setCell ⟨g6, 2, none⟩ (.int .i64 0)).setCell ⟨g6, 3, none⟩ (.int .i64 10)) (some g6) := grown_set (grown_set (World.grownBy.refl _ _) (p := ⟨g6, 2, none⟩) (.inl rfl) _) (p := ⟨g6, 3, none⟩) (.inl rfl) _
          have hh : ∀ b, b < V.heap.size → b ≠ g6 → ((V.setCell ⟨g6, 2, none⟩ (.int .i64 0)).setCell ⟨g6, 3, none⟩ (.int .i64 10)).heap[b]? = V.heap[b]? := fun b hb hne => hG.block b hb (fun e => hne (by injection e))
          have hb6 := B6.out.ext EV.out
          have EV2 := Lib.hid (show Ext w8 ((V.setCell ⟨g6, 2, none⟩ (.int .i64 0)).setCell ⟨g6, 3, none⟩ (.int .i64 10)) from ((EW.out.trans EV.out).setCell (by have := HG6.out; have := Z16.out; dsimp only; omega) _).setCell (by have := HG6.out; have := Z16.out; dsimp only; omega) _)
          have V1 := Lib.hid (show SB exTorn w8 w15.heap.size (.slice A1 n1 c1) (.slice A2 n2 c2) ((V.setCell ⟨g6, 2, none⟩ (.int .i64 0)).setCell ⟨g6, 3, none⟩ (.int .i64 10)) from ⟨EV2.out, ((B16.out.ext EV.out).far (by have := HG6.out; have := Z16.out; dsimp only; omega) _).far (by have := HG6.out; have := Z16.out; dsimp only; omega) _, HT.out.ext EV2.out,
            Own.sl (enc := encD) (sz := 4) (fun _ => rfl) (own_off (Q1.out.ext EV.out) hb6 (by decide) hG), Own.sl (enc := encW) (sz := 4) (fun _ => rfl) ((Q2.out.ext EV.out).same fun g h => hh g (((Q2.out.ext EV.out).rng h).2) (by have := R2.out g h; have := HG6.out; have := Z16.out; omega))⟩)
          have V2 := Lib.hid (show SB exFull w8 (w15.heap.size + 1) (.slice A (3 + 7) c) (.slice A4 (2 + 6) c4) ((V.setCell ⟨g6, 2, none⟩ (.int .i64 0)).setCell ⟨g6, 3, none⟩ (.int .i64 10)) from ⟨EV2.out, ((FR.out.blk.ext EV.out).far (by have := HG6.out; have := Z16.out; dsimp only; omega) _).far (by have := HG6.out; have := Z16.out; dsimp only; omega) _, HT.out.ext EV2.out,
            Own.sl (enc := encD) (sz := 4) (fun _ => rfl) (own_off (FR.out.d.1.ext EV.out) hb6 (by decide) hG), Own.sl (enc := encW) (sz := 4) (fun _ => rfl) ((FR.out.w.1.ext EV.out).same fun g h => hh g (((FR.out.w.1.ext EV.out).rng h).2) (by have := FR.out.wO g h; have := HG6.out; have := Z16.out; omega))⟩)
          have V3 := Lib.hid (show SB exWetB w8 (w15.heap.size + 1 + 1) (.slice A5 n5 c5) (.slice (some ⟨g6, 0, none⟩) 2 c6) ((V.setCell ⟨g6, 2, none⟩ (.int .i64 0)).setCell ⟨g6, 3, none⟩ (.int .i64 10)) from ⟨EV2.out, ((B18.out.ext EV.out).far (by have := HG6.out; have := Z16.out; dsimp only; omega) _).far (by have := HG6.out; have := Z16.out; dsimp only; omega) _, HT.out.ext EV2.out,
            Own.sl (enc := encD) (sz := 4) (fun _ => rfl) (own_off (Q5.out.ext EV.out) hb6 (by decide) hG), HPW.out⟩)
          have V4 := Lib.hid (show SB exPlain w8 (w15.heap.size + 1 + 1 + 1) (.slice A7 n7 c7) (.slice A8 n8 c8) ((V.setCell ⟨g6, 2, none⟩ (.int .i64 0)).setCell ⟨g6, 3, none⟩ (.int .i64 10)) from ⟨EV2.out, ((B19.out.ext EV.out).far (by have := HG6.out; have := Z16.out; dsimp only; omega) _).far (by have := HG6.out; have := Z16.out; dsimp only; omega) _, HT.out.ext EV2.out,
            Own.sl (enc := encD) (sz := 4) (fun _ => rfl) (own_off (Q7.out.ext EV.out) hb6 (by decide) hG), Own.sl (enc := encW) (sz := 4) (fun _ => rfl) ((Q8.out.ext EV.out).same fun g h => hh g (((Q8.out.ext EV.out).rng h).2) (by have := R8.out g h; have := HG6.out; have := Z16.out; omega))⟩)
          clear hG hh hb6 HPW Q1 Q2 Q5 Q6 Q7 Q8 B16 B18 B19 FR EV EW B6
          repeat (first | exact exC_any (HT.out.ext EV2.out) (HE0.out.trans EV2.out) V1.out V2.out V3.out V4.out | go_values | go_skip | go_guarded | go_step | go_upon | go_back)
end Go.Proofs.YtdlipbobfgdleaaDoor
/- middlinglaw03.CoreExamples: the walk. -/
namespace Go.Proofs.YtdlipbobfgdleaaDoor
open Go.RowKit Go.Shelf Go.Lib
set_option maxRecDepth 100000
set_option linter.unusedSimpArgs false

set_option maxHeartbeats 16000000 in
theorem examplesLaw_any (w : World) (hT : Tab w) : Calls Tryd.prog 13 #[] w fun e w' => e = .returned (.bool true) ∧ Ext w w' := by
  have HT := Lib.hid hT
  have E := Lib.hid (Ext.refl w)
  clear hT
  go_enter Tryd.func13, Tryd.ntmps13
  go_wp2_with fail
  refine (alive_any _ HT.out).mono ?_
  rintro e w1 ⟨rfl, hE⟩
  replace E := Lib.hid (E.out.trans hE)
  clear hE
  go_wp2_with fail
  refine (bale0_any _).mono ?_
  rintro e w2 ⟨⟨v, rfl, tv⟩, hE⟩
  replace E := Lib.hid (E.out.trans hE)
  clear hE
  have TV := Lib.hid tv; clear tv
  go_wp2_with fail
  refine (exLayer0 _ _ _ (HT.out.ext E.out) TV.out).mono ?_
  rintro e w3 ⟨rfl, hE⟩
  replace E := Lib.hid (E.out.trans hE)
  clear TV hE
  go_wp2_with fail
  have A1 := Lib.hid (Blk.new w3 23 #[.int .i64 3, .int .i64 3])
  replace E := Lib.hid (E.out.alloc (.cells #[.int .i64 3, .int .i64 3] 23))
  refine (bale0_any _).mono ?_
  rintro e w4 ⟨⟨v, rfl, tv⟩, hE⟩
  replace E := Lib.hid (E.out.trans hE)
  replace A1 := Lib.hid (A1.out.ext hE)
  clear hE
  have TV := Lib.hid tv; clear tv
  go_wp2_with fail
  refine (exLayer2 _ _ _ (HT.out.ext E.out) TV.out).mono ?_
  rintro e w5 ⟨rfl, hE⟩
  replace E := Lib.hid (E.out.trans hE)
  replace A1 := Lib.hid (A1.out.ext hE)
  clear TV hE
  go_wp2_with fail
  have A3 := Lib.hid (Blk.new w5 23 #[.int .i64 1, .int .i64 9])
  replace A1 := Lib.hid (A1.out.alloc (.cells #[.int .i64 1, .int .i64 9] 23))
  replace E := Lib.hid (E.out.alloc (.cells #[.int .i64 1, .int .i64 9] 23))
  refine (bale0_any _).mono ?_
  rintro e w6 ⟨⟨v, rfl, tv⟩, hE⟩
  replace E := Lib.hid (E.out.trans hE)
  replace A1 := Lib.hid (A1.out.ext hE)
  replace A3 := Lib.hid (A3.out.ext hE)
  clear hE
  have TV := Lib.hid tv; clear tv
  go_wp2_with fail
  refine (exWet2 _ _ _ (HT.out.ext E.out) TV.out).mono ?_
  rintro e w7 ⟨rfl, hE⟩
  replace E := Lib.hid (E.out.trans hE)
  replace A1 := Lib.hid (A1.out.ext hE)
  replace A3 := Lib.hid (A3.out.ext hE)
  clear TV hE
  go_wp2_with fail
  have A5 := Lib.hid (Blk.new w7 23 #[.int .i64 40, .int .i64 68])
  replace A1 := Lib.hid (A1.out.alloc (.cells #[.int .i64 40, .int .i64 68] 23))
  replace A3 := Lib.hid (A3.out.alloc (.cells #[.int .i64 40, .int .i64 68] 23))
  replace E := Lib.hid (E.out.alloc (.cells #[.int .i64 40, .int .i64 68] 23))
  refine (bale0_any _).mono ?_
  rintro e w8 ⟨⟨v, rfl, tv⟩, hE⟩
  replace E := Lib.hid (E.out.trans hE)
  replace A1 := Lib.hid (A1.out.ext hE)
  replace A3 := Lib.hid (A3.out.ext hE)
  replace A5 := Lib.hid (A5.out.ext hE)
  clear hE
  have TV := Lib.hid tv; clear tv
  go_wp2_with fail
  refine (exKnownA _ _ _ (HT.out.ext E.out) TV.out).mono ?_
  rintro e w9 ⟨rfl, hE⟩
  replace E := Lib.hid (E.out.trans hE)
  replace A1 := Lib.hid (A1.out.ext hE)
  replace A3 := Lib.hid (A3.out.ext hE)
  replace A5 := Lib.hid (A5.out.ext hE)
  clear TV hE
  go_wp2_with fail
  refine (bale0_any _).mono ?_
  rintro e w10 ⟨⟨v, rfl, tv⟩, hE⟩
  replace E := Lib.hid (E.out.trans hE)
  replace A1 := Lib.hid (A1.out.ext hE)
  replace A3 := Lib.hid (A3.out.ext hE)
  replace A5 := Lib.hid (A5.out.ext hE)
  clear hE
  have TV := Lib.hid tv; clear tv
  go_wp2_with fail
  refine (exKnownB _ _ _ (HT.out.ext E.out) TV.out).mono ?_
  rintro e w11 ⟨rfl, hE⟩
  replace E := Lib.hid (E.out.trans hE)
  replace A1 := Lib.hid (A1.out.ext hE)
  replace A3 := Lib.hid (A3.out.ext hE)
  replace A5 := Lib.hid (A5.out.ext hE)
  clear TV hE
  go_wp2_with fail
  refine (bale0_any _).mono ?_
  rintro e w12 ⟨⟨v, rfl, tv⟩, hE⟩
  replace E := Lib.hid (E.out.trans hE)
  replace A1 := Lib.hid (A1.out.ext hE)
  replace A3 := Lib.hid (A3.out.ext hE)
  replace A5 := Lib.hid (A5.out.ext hE)
  clear hE
  have TV := Lib.hid tv; clear tv
  go_wp2_with fail
  refine (exAsideB _ _ _ (HT.out.ext E.out) TV.out).mono ?_
  rintro e w13 ⟨rfl, hE⟩
  replace E := Lib.hid (E.out.trans hE)
  replace A1 := Lib.hid (A1.out.ext hE)
  replace A3 := Lib.hid (A3.out.ext hE)
  replace A5 := Lib.hid (A5.out.ext hE)
  clear TV hE
  have nq := neq23
  go_wp2
  have A1a := fun W (h : Ext w13 W) => (show W.cell? ⟨w3.heap.size, 0, none⟩ = some (.int .i64 3) from (A1.out.ext h).cell 0)
  have A1b := fun W (h : Ext w13 W) => (show W.cell? ⟨w3.heap.size, 1, none⟩ = some (.int .i64 3) from (A1.out.ext h).cell 1)
  have A3a := fun W (h : Ext w13 W) => (show W.cell? ⟨w5.heap.size, 0, none⟩ = some (.int .i64 1) from (A3.out.ext h).cell 0)
  have A3b := fun W (h : Ext w13 W) => (show W.cell? ⟨w5.heap.size, 1, none⟩ = some (.int .i64 9) from (A3.out.ext h).cell 1)
  have A5a := fun W (h : Ext w13 W) => (show W.cell? ⟨w7.heap.size, 0, none⟩ = some (.int .i64 40) from (A5.out.ext h).cell 0)
  have A5b := fun W (h : Ext w13 W) => (show W.cell? ⟨w7.heap.size, 1, none⟩ = some (.int .i64 68) from (A5.out.ext h).cell 1)
  refine wp_region_tame (fun W => Ext w13 W) (fun W W' => Ext W W') (by kernel_rfl) 359 rfl (by decide +kernel) (Ext.refl _).drew ?_
  repeat (apply tame_q rfl; (intro ρ W hC hr hD; (obtain ⟨hrc, hrg, hrf, hrs⟩ := hr); (simp [go_sem] at hD); go_simp; first | exact ⟨⟨hC, Ext.refl _⟩, rfl⟩ | exact ⟨⟨hC, RS.refl _⟩, rfl⟩ | exact rfl); simp only [List.nil_append, List.cons_append])
  apply tame_q rfl
  · intro ρ W hC hr hD
    obtain ⟨hrc, hrg, hrf, hrs⟩ := hr
    simp [go_sem] at hD
    go_simp
    refine (span_any 3 3 _).mono ?_
    rintro e w' ⟨rfl, hE⟩
    exact ⟨_, rfl, ⟨hC.trans hE, hE⟩, rfl⟩
  simp only [List.nil_append, List.cons_append]
  repeat (apply tame_q rfl; (intro ρ W hC hr hD; (obtain ⟨hrc, hrg, hrf, hrs⟩ := hr); (simp [go_sem] at hD); go_simp; first | exact ⟨⟨hC, Ext.refl _⟩, rfl⟩ | exact ⟨⟨hC, RS.refl _⟩, rfl⟩ | exact rfl); simp only [List.nil_append, List.cons_append])
  apply tame_q rfl
  · intro ρ W hC hr hD
    obtain ⟨hrc, hrg, hrf, hrs⟩ := hr
    simp [go_sem] at hD
    go_simp
    refine (span_any 1 9 _).mono ?_
    rintro e w' ⟨rfl, hE⟩
    exact ⟨_, rfl, ⟨hC.trans hE, hE⟩, rfl⟩
  simp only [List.nil_append, List.cons_append]
  repeat (apply tame_q rfl; (intro ρ W hC hr hD; (obtain ⟨hrc, hrg, hrf, hrs⟩ := hr); (simp [go_sem] at hD); go_simp; first | exact ⟨⟨hC, Ext.refl _⟩, rfl⟩ | exact ⟨⟨hC, RS.refl _⟩, rfl⟩ | exact rfl); simp only [List.nil_append, List.cons_append])
  apply tame_q rfl
  · intro ρ W hC hr hD
    obtain ⟨hrc, hrg, hrf, hrs⟩ := hr
    simp [go_sem] at hD
    go_simp
    refine (span_any 40 68 _).mono ?_
    rintro e w' ⟨rfl, hE⟩
    exact ⟨_, rfl, ⟨hC.trans hE, hE⟩, rfl⟩
  simp only [List.nil_append, List.cons_append]
  repeat (apply tame_q rfl; (intro ρ W hC hr hD; (obtain ⟨hrc, hrg, hrf, hrs⟩ := hr); (simp [go_sem] at hD); go_simp; first | exact ⟨⟨hC, Ext.refl _⟩, rfl⟩ | exact ⟨⟨hC, RS.refl _⟩, rfl⟩ | exact rfl); simp only [List.nil_append, List.cons_append])
  refine tame_end_put rfl rfl (fun ρ W hC hr hF => ?_)
  simp [go_sem] at hF
  simp only [putF, hF, List.set_cons_succ, List.set_cons_zero]
  replace E := Lib.hid (E.out.trans hC)
  clear hF hr hC A1a A1b A3a A3b A5a A5b A1 A3 A5
  go_wp2
  go_loopg [13] 4 (fun gg s13 wr => ∃ kk : Nat, kk ≤ 4 ∧ 4 - kk ≤ gg ∧ s13 = .int .i64 ((kk : Int) + 1) ∧ Aside (Ext w wr))
  case atStart => exact ⟨0, by omega, by omega, rfl, E.out⟩
  case round =>
    obtain ⟨kk, hkk, hg, rfl, EX⟩ := hrel
    by_cases hlt : kk < 4
    · have hltz : (kk : Int) + 1 ≤ 4 := by omega
      go_wp2_with fail
      refine (bale0_any _).mono ?_
      rintro e x1 ⟨⟨v, rfl, tv⟩, hE⟩
      have EX1 := Lib.hid (EX.out.trans hE)
      have TV := Lib.hid tv; clear tv hE
      go_wp2_with fail
      refine (exKindK _ _ _ kk (HT.out.ext EX1.out) TV.out hlt).mono ?_
      rintro e x2 ⟨rfl, hE⟩
      have EX2 := Lib.hid (EX1.out.trans hE)
      clear hE TV EX1
      go_wp2
      go_roundg (4 - (kk + 1))
      case measure => omega
      case rel => exact ⟨kk + 1, by omega, by omega, by simp <;> omega, EX2.out⟩
    · obtain rfl : kk = 4 := by omega
      repeat (first | exact exB_any (HT.out.ext EX.out) EX.out | go_values | go_skip | go_guarded | go_step | go_upon | go_back)
end Go.Proofs.YtdlipbobfgdleaaDoor
