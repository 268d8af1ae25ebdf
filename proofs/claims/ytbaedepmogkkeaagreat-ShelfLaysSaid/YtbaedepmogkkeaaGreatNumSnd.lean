/- quill: numbers laid behind bytes, as contracts of the abstract machine. No conditions but that sizes and lengths are what memory holds. -/
import Derived.Test.YtbaedepmogkkeaaGreatAuto
import Derived.Test.YtbaedepmogkkeaaGreatSnd
namespace Go.Proofs.YtbaedepmogkkeaaGreat.Av
open Go Go.RowKit
set_option linter.unusedVariables false
set_option linter.unusedSimpArgs false

theorem numk_any (l : List UInt8) (k x : Nat) (a : AV) (ha : a = .vs l.length (bytesA l) ∨ (a = nilA ∧ l = [])) (hk : 1 ≤ k) (hk8 : k ≤ 8) (hl : l.length ≤ 35184372088832) (hx : x < 18446744073709551616) : SP 124 [a, Z k, U x] (.own 5 (l ++ Quill.numB k x).length (bytesA (l ++ Quill.numB k x))) :=
  sound_bytes (vs := [.int .i64 k, .int .u64 x]) Tryz.func124 (by kernel_rfl) rfl (fun w A n c hr => num_yes A n c k x l w w.heap.size hr hk hk8 (by have := hr.1; omega) hx (Nat.le_refl _)) a ha
theorem rnumk_any (l : List UInt8) (k x : Nat) (a : AV) (ha : a = .vs l.length (bytesA l) ∨ (a = nilA ∧ l = [])) (hk : 1 ≤ k) (hk8 : k ≤ 8) (hl : l.length ≤ 35184372088832) (hx : x < 18446744073709551616) : SP 131 [a, Z k, U x] (.own 5 (l ++ Quill.numB k x).length (bytesA (l ++ Quill.numB k x))) :=
  sound_bytes (vs := [.int .i64 k, .int .u64 x]) Tryz.func131 (by kernel_rfl) rfl (fun w A n c hr => refnum_any A n c k x l w w.heap.size hr hk hk8 (by have := hr.1; omega) hx (Nat.le_refl _)) a ha
theorem numk_snd (l : List UInt8) (k x : Nat) (hk : 1 ≤ k) (hk8 : k ≤ 8) (hl : l.length ≤ 35184372088832) (hx : x < 18446744073709551616) : SP 124 [.vs l.length (bytesA l), Z k, U x] (.own 5 (l ++ Quill.numB k x).length (bytesA (l ++ Quill.numB k x))) := numk_any l k x _ (.inl rfl) hk hk8 hl hx
theorem rnumk_snd (l : List UInt8) (k x : Nat) (hk : 1 ≤ k) (hk8 : k ≤ 8) (hl : l.length ≤ 35184372088832) (hx : x < 18446744073709551616) : SP 131 [.vs l.length (bytesA l), Z k, U x] (.own 5 (l ++ Quill.numB k x).length (bytesA (l ++ Quill.numB k x))) := rnumk_any l k x _ (.inl rfl) hk hk8 hl hx
theorem numk_nil (k x : Nat) (hk : 1 ≤ k) (hk8 : k ≤ 8) (hx : x < 18446744073709551616) : SP 124 [nilA, Z k, U x] (.own 5 (Quill.numB k x).length (bytesA (Quill.numB k x))) := numk_any [] k x _ (.inr ⟨rfl, rfl⟩) hk hk8 (by simp) hx
theorem rnumk_nil (k x : Nat) (hk : 1 ≤ k) (hk8 : k ≤ 8) (hx : x < 18446744073709551616) : SP 131 [nilA, Z k, U x] (.own 5 (Quill.numB k x).length (bytesA (Quill.numB k x))) := rnumk_any [] k x _ (.inr ⟨rfl, rfl⟩) hk hk8 (by simp) hx
end Go.Proofs.YtbaedepmogkkeaaGreat.Av
