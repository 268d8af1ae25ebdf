/- quill: contracts of scanning, for the walks by the abstract machine. No conditions but that texts are shorter than memory. -/
import Derived.Test.YtbaedepmogkkeaaGreatNonce2
import Derived.Test.YtbaedepmogkkeaaGreatQuillAwake
import Derived.Test.YtbaedepmogkkeaaGreatOpen2
namespace Go.Proofs.YtbaedepmogkkeaaGreat.Av
open Go Go.RowKit
set_option linter.unusedVariables false
set_option linter.unusedSimpArgs false
set_option maxRecDepth 100000

abbrev scB (t : List UInt8) (p b : Int) : AV := .ex (.agg #[.string (bs t), .int .i64 p, .int .i64 b])
theorem end_snd (s : Quill.Sc) (hl : s.text.length ≤ 9223372036854775807) : SP 128 [scB s.text s.pos s.bad] (Z s.fin) :=
  sound_ex (vs := [_]) Tryz.func128 (by kernel_rfl) rfl (fun w => sfin s w hl)
theorem rend_snd (s : Quill.Sc) (hl : s.text.length ≤ 9223372036854775807) : SP 137 [scB s.text s.pos s.bad] (Z s.fin) :=
  sound_ex (vs := [_]) Tryz.func137 (by kernel_rfl) rfl (fun w => rfin s w hl)
abbrev rowT (x t : List UInt8) (p b : Int) : AV := .ex (.tuple #[.string (bs x), .agg #[.string (bs t), .int .i64 p, .int .i64 b]])
abbrev numT2 (x : Nat) (t : List UInt8) (p b : Int) : AV := .ex (.tuple #[.int .u64 (x : Int), .agg #[.string (bs t), .int .i64 p, .int .i64 b]])
theorem row_snd (s : Quill.Sc) (hl : s.text.length ≤ 70368744177664) : SP 127 [scB s.text s.pos s.bad] (rowT s.row.1 s.text s.row.2.pos s.row.2.bad) :=
  sound_ex (vs := [_]) Tryz.func127 (by kernel_rfl) rfl (fun w => srow s w hl)
theorem rrow_snd (s : Quill.Sc) (hl : s.text.length ≤ 70368744177664) : SP 136 [scB s.text s.pos s.bad] (rowT s.row.1 s.text s.row.2.pos s.row.2.bad) :=
  sound_ex (vs := [_]) Tryz.func136 (by kernel_rfl) rfl (fun w => rrow s w hl)
end Go.Proofs.YtbaedepmogkkeaaGreat.Av
