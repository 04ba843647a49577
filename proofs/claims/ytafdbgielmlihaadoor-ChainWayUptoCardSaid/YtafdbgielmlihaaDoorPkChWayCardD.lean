/- What the second form's condition (bulk) says of bytes that come in. -/
import Derived.Test.YtafdbgielmlihaaDoorPkChLeastCardX
import Derived.Test.YtafdbgielmlihaaDoorRows
namespace Go.Proofs.YtafdbgielmlihaaDoor
open Go.RowKit Go.Shelf Go.ChangeShapes Go.WideShapes Go.ChangeAt
set_option maxRecDepth 100000

theorem bulk_pos {H : Type} (d : DataW H) : 1 ≤ Rows.uptoBulk d := by
  cases d <;> first | (rename_i l; cases l <;> (simp only [Rows.uptoBulk]; omega)) | (simp only [Rows.uptoBulk]; omega)
theorem bulk_all {H : Type} : ∀ L : List (DataW H), L.length ≤ Rows.uptoBulkAll L
  | [] => Nat.zero_le _
  | d :: r => by
    have h1 := bulk_pos d
    have h2 := bulk_all r
    rw [Rows.uptoBulkAll, List.length_cons]
    omega
theorem open_bulk {H : Type} {enc : TypeId × Value → H} {w : World} {v : Value} {d : DataW H} {p : List MemPlace} {l : List Int} (h : DataW.Trod enc Tryd.prog w 0 (fun _ => true) true 95 v d p) (hl : Sl encU 1 w v l) : l.length ≤ Rows.uptoBulk d := by
  obtain ⟨fuel, hf⟩ := h
  obtain ⟨A, n, c, rfl, hn, -, -⟩ := hl.form
  have hn := hn.out
  rcases Go.Deep.open_slice Tryd.underlying95 hf with ⟨hv, _⟩ | ⟨a, len, cap, m, n', D, Pl, hv, _, _, _, _, hx, _⟩
  · injection hv with hv
    injection hv with _ h2 _
    omega
  · injection hv with hv
    injection hv with _ h2 _
    injection hx with hx _
    subst hx
    subst h2
    have h := bulk_all ((List.range n).map D)
    simp only [Rows.uptoBulk]
    simp at h
    omega
end Go.Proofs.YtafdbgielmlihaaDoor
