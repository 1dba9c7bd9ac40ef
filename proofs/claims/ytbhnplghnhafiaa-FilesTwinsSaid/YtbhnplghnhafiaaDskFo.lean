import Derived.Test.YtbhnplghnhafiaaDskF
import Derived.Test.YtbhnplghnhafiaaVcSt
/-! Files: operations that come in. -/
set_option linter.unusedVariables false
set_option linter.unusedSimpArgs false
namespace Go.Proofs.Ytbhnplghnhafiaa.Try
open Go Go.Vc Go.RowKit Go.ChangeShapes Go.WideShapes Go.ChangeAt
theorem opOpens : OpensK Go.Proofs.Try.prog 44 7 Rop := by
  intro H enc w base spare held fuel cs x h
  obtain ⟨hl, n, hf⟩ := trod_field Go.Proofs.Try.underlying44 h
  have hl : cs.length = 7 := hl.trans (by kernel_rfl)
  match cs, hl with
  | [c0, c1, c2, c3, c4, c5, c6], _ =>
  obtain ⟨y0, h0⟩ := hf 0 _ rfl
  have h0 : DataW.trod enc Go.Proofs.Try.prog w base spare held n 3 (([c0, c1, c2, c3, c4, c5, c6].drop 0).take (Go.Proofs.Try.prog.cellsOf 3)) = some y0 := h0
  rw [show Go.Proofs.Try.prog.cellsOf 3 = 1 from by kernel_rfl] at h0
  obtain ⟨u0, a0, e0, r0⟩ := (Opens.i64 Go.Proofs.Try.underlying3 : Opens Go.Proofs.Try.prog 3 _) enc w base spare held n _ _ h0
  obtain rfl : c0 = u0 := by have e0 : [c0] = [u0] := e0; injection e0
  obtain ⟨y1, h1⟩ := hf 1 _ rfl
  have h1 : DataW.trod enc Go.Proofs.Try.prog w base spare held n 3 (([c0, c1, c2, c3, c4, c5, c6].drop 1).take (Go.Proofs.Try.prog.cellsOf 3)) = some y1 := h1
  rw [show Go.Proofs.Try.prog.cellsOf 3 = 1 from by kernel_rfl] at h1
  obtain ⟨u1, a1, e1, r1⟩ := (Opens.i64 Go.Proofs.Try.underlying3 : Opens Go.Proofs.Try.prog 3 _) enc w base spare held n _ _ h1
  obtain rfl : c1 = u1 := by have e1 : [c1] = [u1] := e1; injection e1
  obtain ⟨y2, h2⟩ := hf 2 _ rfl
  have h2 : DataW.trod enc Go.Proofs.Try.prog w base spare held n 9 (([c0, c1, c2, c3, c4, c5, c6].drop 2).take (Go.Proofs.Try.prog.cellsOf 9)) = some y2 := h2
  rw [show Go.Proofs.Try.prog.cellsOf 9 = 1 from by kernel_rfl] at h2
  obtain ⟨u2, a2, e2, r2⟩ := (Opens.str Go.Proofs.Try.underlying9 : Opens Go.Proofs.Try.prog 9 _) enc w base spare held n _ _ h2
  obtain rfl : c2 = u2 := by have e2 : [c2] = [u2] := e2; injection e2
  obtain ⟨y3, h3⟩ := hf 3 _ rfl
  have h3 : DataW.trod enc Go.Proofs.Try.prog w base spare held n 9 (([c0, c1, c2, c3, c4, c5, c6].drop 3).take (Go.Proofs.Try.prog.cellsOf 9)) = some y3 := h3
  rw [show Go.Proofs.Try.prog.cellsOf 9 = 1 from by kernel_rfl] at h3
  obtain ⟨u3, a3, e3, r3⟩ := (Opens.str Go.Proofs.Try.underlying9 : Opens Go.Proofs.Try.prog 9 _) enc w base spare held n _ _ h3
  obtain rfl : c3 = u3 := by have e3 : [c3] = [u3] := e3; injection e3
  obtain ⟨y4, h4⟩ := hf 4 _ rfl
  have h4 : DataW.trod enc Go.Proofs.Try.prog w base spare held n 29 (([c0, c1, c2, c3, c4, c5, c6].drop 4).take (Go.Proofs.Try.prog.cellsOf 29)) = some y4 := h4
  rw [show Go.Proofs.Try.prog.cellsOf 29 = 1 from by kernel_rfl] at h4
  obtain ⟨u4, a4, e4, r4⟩ := (Opens.slice Go.Proofs.Try.underlying29 (by kernel_rfl : Go.Proofs.Try.prog.cellsOf 5 = 1) (Opens.u8 Go.Proofs.Try.underlying5) : Opens Go.Proofs.Try.prog 29 _) enc w base spare held n _ _ h4
  obtain rfl : c4 = u4 := by have e4 : [c4] = [u4] := e4; injection e4
  obtain ⟨y5, h5⟩ := hf 5 _ rfl
  have h5 : DataW.trod enc Go.Proofs.Try.prog w base spare held n 38 (([c0, c1, c2, c3, c4, c5, c6].drop 5).take (Go.Proofs.Try.prog.cellsOf 38)) = some y5 := h5
  rw [show Go.Proofs.Try.prog.cellsOf 38 = 1 from by kernel_rfl] at h5
  obtain ⟨u5, a5, e5, r5⟩ := (Opens.slice Go.Proofs.Try.underlying38 (by kernel_rfl : Go.Proofs.Try.prog.cellsOf 3 = 1) (Opens.i64 Go.Proofs.Try.underlying3) : Opens Go.Proofs.Try.prog 38 _) enc w base spare held n _ _ h5
  obtain rfl : c5 = u5 := by have e5 : [c5] = [u5] := e5; injection e5
  obtain ⟨y6, h6⟩ := hf 6 _ rfl
  have h6 : DataW.trod enc Go.Proofs.Try.prog w base spare held n 5 (([c0, c1, c2, c3, c4, c5, c6].drop 6).take (Go.Proofs.Try.prog.cellsOf 5)) = some y6 := h6
  rw [show Go.Proofs.Try.prog.cellsOf 5 = 1 from by kernel_rfl] at h6
  obtain ⟨u6, a6, e6, r6⟩ := (Opens.u8 Go.Proofs.Try.underlying5 : Opens Go.Proofs.Try.prog 5 _) enc w base spare held n _ _ h6
  obtain rfl : c6 = u6 := by have e6 : [c6] = [u6] := e6; injection e6
  obtain ⟨s2, rfl⟩ := str_of a2; obtain ⟨s3, rfl⟩ := str_of a3; obtain ⟨rfl, _⟩ := r0; obtain ⟨rfl, _⟩ := r1; obtain ⟨rfl, l2⟩ := r2; obtain ⟨rfl, l3⟩ := r3; obtain rfl := r6; rw [str_size] at l2 l3; exact ⟨⟨a0, a1, s2, s3, a4, a5, a6⟩, rfl, c4, c5, rfl, r4, r5, l2, l3⟩
end Go.Proofs.Ytbhnplghnhafiaa.Try
