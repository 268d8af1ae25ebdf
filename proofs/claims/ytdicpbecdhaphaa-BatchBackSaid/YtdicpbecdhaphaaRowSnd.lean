/- quill: a row laid behind bytes, as a contract of the abstract machine. No conditions but that lengths are what memory holds. -/
import Derived.Test.YtdicpbecdhaphaaAuto
import Derived.Test.YtdicpbecdhaphaaSnd
namespace Go.Proofs.Ytdicpbecdhaphaa.Av
open Go Go.RowKit
set_option linter.unusedVariables false
set_option linter.unusedSimpArgs false

theorem rowk_snd (l s : List UInt8) (hl : l.length ≤ 17592186044416) (hs : s.length ≤ 65535) : SP 96 [.vs l.length (bytesA l), T s] (.tup [.own 5 (l ++ Quill.rowB s).length (bytesA (l ++ Quill.rowB s)), Z 0]) :=
  sound_bytesE (vs := [.string (bs s)]) Try.func96 (by kernel_rfl) rfl (fun w A n c hr => row_any A n c l s w w.heap.size hr (by have := hr.1; omega) hs (Nat.le_refl _)) _ (.inl rfl)
end Go.Proofs.Ytdicpbecdhaphaa.Av
