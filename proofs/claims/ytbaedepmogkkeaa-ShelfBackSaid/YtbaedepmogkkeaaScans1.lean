/- quill: contracts of scanning, for the walks by the abstract machine. No conditions but that texts are shorter than memory. -/
import Derived.Test.YtbaedepmogkkeaaNonce2
import Derived.Test.YtbaedepmogkkeaaQuillAwake
import Derived.Test.YtbaedepmogkkeaaOpen2
namespace Go.Proofs.Ytbaedepmogkkeaa.Av
open Go Go.RowKit
set_option linter.unusedVariables false
set_option linter.unusedSimpArgs false
set_option maxRecDepth 100000

abbrev scB (t : List UInt8) (p b : Int) : AV := .ex (.agg #[.string (bs t), .int .i64 p, .int .i64 b])
theorem end_snd (s : Quill.Sc) (hl : s.text.length ≤ 9223372036854775807) : SP 32 [scB s.text s.pos s.bad] (Z s.fin) :=
  sound_ex (vs := [_]) Try.func32 (by kernel_rfl) rfl (fun w => sfin s w hl)
theorem rend_snd (s : Quill.Sc) (hl : s.text.length ≤ 9223372036854775807) : SP 35 [scB s.text s.pos s.bad] (Z s.fin) :=
  sound_ex (vs := [_]) Try.func35 (by kernel_rfl) rfl (fun w => rfin s w hl)
abbrev rowT (x t : List UInt8) (p b : Int) : AV := .ex (.tuple #[.string (bs x), .agg #[.string (bs t), .int .i64 p, .int .i64 b]])
abbrev numT2 (x : Nat) (t : List UInt8) (p b : Int) : AV := .ex (.tuple #[.int .u64 (x : Int), .agg #[.string (bs t), .int .i64 p, .int .i64 b]])
theorem row_snd (s : Quill.Sc) (hl : s.text.length ≤ 70368744177664) : SP 31 [scB s.text s.pos s.bad] (rowT s.row.1 s.text s.row.2.pos s.row.2.bad) :=
  sound_ex (vs := [_]) Try.func31 (by kernel_rfl) rfl (fun w => srow s w hl)
theorem rrow_snd (s : Quill.Sc) (hl : s.text.length ≤ 70368744177664) : SP 34 [scB s.text s.pos s.bad] (rowT s.row.1 s.text s.row.2.pos s.row.2.bad) :=
  sound_ex (vs := [_]) Try.func34 (by kernel_rfl) rfl (fun w => rrow s w hl)
end Go.Proofs.Ytbaedepmogkkeaa.Av
