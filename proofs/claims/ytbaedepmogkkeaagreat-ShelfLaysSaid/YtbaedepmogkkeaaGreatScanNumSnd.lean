/- quill: a number scanned, as a contract of the abstract machine. No conditions but that texts are shorter than memory. -/
import Derived.Test.YtbaedepmogkkeaaGreatAuto
import Derived.Test.YtbaedepmogkkeaaGreatSnd
import Derived.Test.YtbaedepmogkkeaaGreatScanWalks2
namespace Go.Proofs.YtbaedepmogkkeaaGreat.Av
open Go Go.RowKit
set_option linter.unusedVariables false
set_option linter.unusedSimpArgs false

abbrev scM (t : List UInt8) (p b : Int) : AV := .ex (.agg #[.string (bs t), .int .i64 p, .int .i64 b])
abbrev numM (x : Nat) (t : List UInt8) (p b : Int) : AV := .ex (.tuple #[.int .u64 (x : Int), .agg #[.string (bs t), .int .i64 p, .int .i64 b]])
theorem scannum_snd (t : List UInt8) (p b size : Int) (hl : t.length ≤ 70368744177664) : SP 126 [scM t p b, Z size] (numM (Quill.Sc.num ⟨t, p, b⟩ size).1 t (Quill.Sc.num ⟨t, p, b⟩ size).2.pos (Quill.Sc.num ⟨t, p, b⟩ size).2.bad) :=
  sound_ex (vs := [_, _]) Tryz.func126 (by kernel_rfl) rfl (fun w => snum ⟨t, p, b⟩ size w hl)
theorem takenum_snd (t : List UInt8) (p b size : Int) (hl : t.length ≤ 70368744177664) : SP 135 [scM t p b, Z size] (numM (Quill.Sc.num ⟨t, p, b⟩ size).1 t (Quill.Sc.num ⟨t, p, b⟩ size).2.pos (Quill.Sc.num ⟨t, p, b⟩ size).2.bad) :=
  sound_ex (vs := [_, _]) Tryz.func135 (by kernel_rfl) rfl (fun w => rnum ⟨t, p, b⟩ size w hl)
end Go.Proofs.YtbaedepmogkkeaaGreat.Av
