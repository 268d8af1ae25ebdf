/- crc: sums, sealing and opening, as contracts of the abstract machine. No conditions but that texts are no longer than a mebibyte. -/
import Derived.Test.YtdicpbecdhaphaaCrcSr3
import Derived.Test.YtdicpbecdhaphaaAuto
import Derived.Test.YtdicpbecdhaphaaSnd
namespace Go.Proofs.Ytdicpbecdhaphaa.Av
open Go Go.RowKit
set_option linter.unusedVariables false
set_option linter.unusedSimpArgs false

theorem crcseal_ok (l : List UInt8) (hs : l.length ≤ 1048576) : SP 72 [T l] (T (Crc.sealed l)) :=
  sound_ex (vs := [.string (bs l)]) Try.func72 (by kernel_rfl) rfl (fun w => seal_any l w hs)
abbrev TE (l : List UInt8) (e : Int) : AV := .ex (.tuple #[.string (bs l), .int .i64 e])
theorem crcopen_ok (l : List UInt8) (hs : l.length ≤ 1048576) : SP 73 [T l] (TE (Crc.opened l).1 (Crc.opened l).2) :=
  sound_ex (vs := [.string (bs l)]) Try.func73 (by kernel_rfl) rfl (fun w => open_any l w hs)
end Go.Proofs.Ytdicpbecdhaphaa.Av
